/- Part of the proof that YteemoolcphhkbaaGreat holds whatever the input: a text of contracts, laws and steps; no condition. -/
import Derived.Test.YteemoolcphhkbaaGreatRvC
set_option linter.all false
set_option autoImplicit false
namespace Go.Rv
open Go.RowKit

/-! ### What is at hand in the midst of a function: named resources, each in blocks of its own -/

/-- A resource: what it says of a world, and the blocks that it lies in. -/
structure Rs where
  foot : Nat → Prop
  ok : World → Prop
  lt : ∀ {w}, ok w → ∀ k, foot k → k < w.heap.size
  keep : ∀ {w w'}, ok w → w.heap.size ≤ w'.heap.size → (∀ k, k < w.heap.size → foot k → w'.heap[k]? = w.heap[k]?) → ok w'

/-- A block. -/
def Rs.b (blk : Nat) (o : Obj) : Rs where
  foot := (· = blk)
  ok w := w.heap[blk]? = some o
  lt h k hk := by subst hk; exact (Array.getElem?_eq_some_iff.1 h).1
  keep h _ hk := by rw [hk _ (Array.getElem?_eq_some_iff.1 h).1 rfl]; exact h
/-- A slice that the function owns. -/
def Rs.s (v : Value) (e : TypeId) (size n : Nat) (xs : List Value) : Rs where
  foot k := v.ownBlock = some k
  ok w := w.ownsRow 0 e size v n xs
  lt h k hk := (World.ownsRow.lt h k hk).2
  keep h hs hk := by
    obtain ⟨h1, h2⟩ := h
    refine ⟨h1, ?_⟩
    rcases h2 with h2 | ⟨b, cap, cur, rfl, hb, hh, h3⟩
    · exact .inl h2
    · exact .inr ⟨b, cap, cur, rfl, hb, by rw [hk b (Array.getElem?_eq_some_iff.1 hh).1 rfl]; exact hh, h3⟩

/-- What else holds (J), of blocks that are not the function's own (those of U are). -/
structure Jst (J : World → Prop) (U : Nat → Prop) : Prop where
  keep : ∀ w w' row, J w → w.grownBy w' row → (∀ b, row = some b → U b) → J w'
  new : ∀ w b, J w → w.heap.size ≤ b → U b

def Ap2 (r r' : Rs) : Prop := ∀ b, r.foot b → ¬ r'.foot b
structure Cur (J : World → Prop) (U : Nat → Prop) (w : World) (l : List Rs) : Prop where
  j : J w
  ok : ∀ r ∈ l, r.ok w
  own : ∀ r ∈ l, ∀ b, r.foot b → U b
  ap : l.Pairwise Ap2

theorem Rs.foot_lt {w : World} {r : Rs} (h : r.ok w) : ∀ b, r.foot b → b < w.heap.size := r.lt h

/-- A resource that a step does not touch stays. -/
theorem Rs.ok_keep {w w' : World} {row : Option Nat} {r : Rs} (h : r.ok w) (hg : w.grownBy w' row) (hne : ∀ b, r.foot b → row ≠ some b) : r.ok w' :=
  r.keep h hg.size fun k hk hf => hg.block k hk fun e => hne k hf e.symm

section
variable {J : World → Prop} {U : Nat → Prop} {w w' : World} {l : List Rs}

/-- A step that touches no resource (a call that only makes memory; a draw). -/
theorem Cur.step (hJ : Jst J U) (H : Cur J U w l) (hg : w.grownBy w' none) : Cur J U w' l :=
  ⟨hJ.keep _ _ _ H.j hg (fun _ h => by cases h), fun r hr => Rs.ok_keep (H.ok r hr) hg (fun _ _ h => by cases h), H.own, H.ap⟩
theorem grown_of_below (h : Below w.heap.size w w') : w.grownBy w' none := ⟨h.os, h.tape, h.output, h.size, fun k hk _ => h.block k hk⟩
theorem grown_drw (w : World) : w.grownBy (drw w) none := ⟨rfl, rfl, rfl, Nat.le_refl _, fun _ _ _ => rfl⟩

/-- A new resource. -/
theorem Cur.add (hJ : Jst J U) (H : Cur J U w l) {r : Rs} (hg : w.grownBy w' none) (hr : r.ok w') (hn : ∀ b, r.foot b → w.heap.size ≤ b) : Cur J U w' (l ++ [r]) := by
  have H' := H.step hJ hg
  refine ⟨H'.j, fun r' h => ?_, fun r' h b hb => ?_, List.pairwise_append.2 ⟨H.ap, List.pairwise_singleton _ _, fun r' h r'' h'' b hb hb' => ?_⟩⟩
  · rcases List.mem_append.1 h with h | h
    · exact H'.ok r' h
    · rw [List.mem_singleton.1 h]; exact hr
  · rcases List.mem_append.1 h with h | h
    · exact H'.own r' h b hb
    · rw [List.mem_singleton.1 h] at hb; exact hJ.new w b H.j (hn b hb)
  · rw [List.mem_singleton.1 h''] at hb'
    have h1 := hn b hb'
    have h2 := Rs.foot_lt (H.ok r' h) b hb
    omega

theorem mem_set_cases {i : Nat} {r r' : Rs} : ∀ {l : List Rs} {i : Nat}, r ∈ l.set i r' → r = r' ∨ ∃ j, j ≠ i ∧ l[j]? = some r
  | [], _, h => by simp at h
  | a :: l, 0, h => by
    simp only [List.set_cons_zero, List.mem_cons] at h
    rcases h with h | h
    · exact .inl h
    · obtain ⟨j, hj⟩ := List.getElem?_of_mem h
      exact .inr ⟨j + 1, by omega, by simpa using hj⟩
  | a :: l, i + 1, h => by
    simp only [List.set_cons_succ, List.mem_cons] at h
    rcases h with rfl | h
    · exact .inr ⟨0, by omega, rfl⟩
    · rcases mem_set_cases (i := i) h with h | ⟨j, h1, h2⟩
      · exact .inl h
      · exact .inr ⟨j + 1, by omega, by simpa using h2⟩

theorem ap_sym {r r' : Rs} (h : Ap2 r r') : Ap2 r' r := fun b h1 h2 => h b h2 h1

/-- A resource is turned into another one, which lies where it lay, or in new blocks. -/
theorem Cur.turn (hJ : Jst J U) (H : Cur J U w l) {i : Nat} {r r' : Rs} {row : Option Nat} (hi : l[i]? = some r) (hg : w.grownBy w' row) (hrow : ∀ b, row = some b → r.foot b) (hr : r'.ok w') (hn : ∀ b, r'.foot b → r.foot b ∨ w.heap.size ≤ b) :
    Cur J U w' (l.set i r') := by
  have hmem := List.mem_of_getElem? hi
  have hother : ∀ j s, j ≠ i → l[j]? = some s → ∀ b, s.foot b → ¬ r.foot b := by
    intro j s hj hs b hb hb'
    have hp := H.ap
    rw [List.pairwise_iff_getElem] at hp
    obtain ⟨hjl, hjs⟩ := List.getElem?_eq_some_iff.1 hs
    obtain ⟨hil, his⟩ := List.getElem?_eq_some_iff.1 hi
    rcases Nat.lt_or_gt_of_ne hj with h | h
    · have := hp j i hjl hil h b
      rw [hjs, his] at this; exact this hb hb'
    · have := hp i j hil hjl h b
      rw [hjs, his] at this; exact this hb' hb
  refine ⟨hJ.keep _ _ _ H.j hg (fun b hb => H.own r hmem b (hrow b hb)), fun s hs => ?_, fun s hs b hb => ?_, ?_⟩
  · rcases mem_set_cases (i := i) hs with rfl | ⟨j, hj, hsj⟩
    · exact hr
    · exact Rs.ok_keep (H.ok s (List.mem_of_getElem? hsj)) hg (fun b hb hrb => hother j s hj hsj b hb (hrow b hrb))
  · rcases mem_set_cases (i := i) hs with rfl | ⟨j, hj, hsj⟩
    · rcases hn b hb with h | h
      · exact H.own r hmem b h
      · exact hJ.new w b H.j h
    · exact H.own s (List.mem_of_getElem? hsj) b hb
  · rw [List.pairwise_iff_getElem]
    intro a c ha hc hac b
    have hp := H.ap
    rw [List.pairwise_iff_getElem] at hp
    simp only [List.length_set] at ha hc
    rw [List.getElem_set, List.getElem_set]
    have new_ap : ∀ j (hj : j < l.length), j ≠ i → ∀ b, r'.foot b → ¬ (l[j]).foot b := by
      intro j hj hji b h1 h2
      rcases hn b h1 with h | h
      · exact hother j _ hji (List.getElem?_eq_getElem hj) b h2 h
      · have := Rs.foot_lt (H.ok _ (List.getElem_mem hj)) b h2
        omega
    by_cases h1 : i = a
    · rw [if_pos h1, if_neg (by omega)]
      exact new_ap c hc (by omega) b
    · rw [if_neg h1]
      by_cases h2 : i = c
      · rw [if_pos h2]
        intro h3 h4
        exact new_ap a ha (by omega) b h4 h3
      · rw [if_neg h2]
        exact hp a c ha hc hac b

theorem Cur.drop (H : Cur J U w l) {l' : List Rs} (h : l'.Sublist l) : Cur J U w l' :=
  ⟨H.j, fun r hr => H.ok r (h.subset hr), fun r hr => H.own r (h.subset hr), H.ap.sublist h⟩
theorem Cur.nil (h : J w) : Cur J U w [] := ⟨h, (fun _ h => by cases h), (fun _ h => by cases h), List.Pairwise.nil⟩
theorem Cur.blk {k : Nat} {o : Obj} {i : Nat} (H : Cur J U w l) (hi : l[i]? = some (.b k o)) : w.heap[k]? = some o := H.ok _ (List.mem_of_getElem? hi)
theorem Cur.at {r : Rs} {i : Nat} (H : Cur J U w l) (hi : l[i]? = some r) : r.ok w := H.ok _ (List.mem_of_getElem? hi)

/-- One resource is opened into its parts, or parts are closed into one. -/
theorem Cur.swap (H : Cur J U w l) {l' : List Rs} (hok : ∀ r ∈ l', r.ok w) (hf : ∀ r ∈ l', ∀ b, r.foot b → ∃ s ∈ l, s.foot b) (hap : l'.Pairwise Ap2) : Cur J U w l' :=
  ⟨H.j, hok, fun r hr b hb => by obtain ⟨s, hs, hb'⟩ := hf r hr b hb; exact H.own s hs b hb', hap⟩

/-- The frame rule: of two lists one is put aside. -/
theorem Cur.aside (hJ : Jst J U) {l' : List Rs} (H : Cur J U w (l ++ l')) :
    ∃ J' U', Jst J' U' ∧ Cur J' U' w l ∧ ∀ w' l'', Cur J' U' w' l'' → Cur J U w' (l'' ++ l') := by
  have hp := List.pairwise_append.1 H.ap
  refine ⟨fun w => J w ∧ ∀ r ∈ l', r.ok w, fun b => U b ∧ ∀ r ∈ l', ¬ r.foot b, ⟨?_, ?_⟩, ⟨⟨H.j, fun r hr => H.ok r (List.mem_append.2 (.inr hr))⟩, fun r hr => H.ok r (List.mem_append.2 (.inl hr)), fun r hr b hb => ⟨H.own r (List.mem_append.2 (.inl hr)) b hb, fun s hs => hp.2.2 r hr s hs b hb⟩, hp.1⟩, ?_⟩
  · intro w w' row ⟨hj, hr⟩ hg hrow
    exact ⟨hJ.keep w w' row hj hg fun b hb => (hrow b hb).1, fun r h => Rs.ok_keep (hr r h) hg fun b hb e => (hrow b e).2 r h hb⟩
  · intro w b ⟨hj, hr⟩ hb
    exact ⟨hJ.new w b hj hb, fun r h hf => by have := r.lt (hr r h) b hf; omega⟩
  · intro w' l'' H'
    refine ⟨H'.j.1, fun r hr => ?_, fun r hr b hb => ?_, List.pairwise_append.2 ⟨H'.ap, hp.2.1, fun r hr s hs b hb => (H'.own r hr b hb).2 s hs⟩⟩
    · rcases List.mem_append.1 hr with h | h
      · exact H'.ok r h
      · exact H'.j.2 r h
    · rcases List.mem_append.1 hr with h | h
      · exact (H'.own r h b hb).1
      · exact H.own r (List.mem_append.2 (.inr h)) b hb
end

/-- The plain frame: below the first block of the call's own nothing has turned. -/
theorem jst_below (w0 : World) : Jst (Below w0.heap.size w0) (w0.heap.size ≤ ·) :=
  ⟨fun w w' row h hg hr => h.trans ⟨hg.os, hg.tape, hg.output, hg.size, fun k hk => hg.block k (Nat.lt_of_lt_of_le hk h.size) (fun e => by have := hr k e.symm; omega)⟩,
   fun w b h hb => Nat.le_trans h.size hb⟩

/-! ### Operations over resources -/
section
variable {P : Program} {J : World → Prop} {U : Nat → Prop} {w : World} {l : List Rs} {k : KV}

class Zr (P : Program) (t : TypeId) (z : outParam Value) : Prop where
  out : ∃ i, P.info? t = some i ∧ i.zero = some z
class Sz1 (P : Program) (t : TypeId) (n : outParam Nat) : Prop where
  out : ∃ i, P.info? t = some i ∧ i.size = n

theorem D_run {o : VOp} {v : Value} {w' : World} (h : (VOp.sem o).run P w = .ok (.value v) w') (hk : k v w') : D P o k w := ⟨by unfold D0; rw [h]; exact hk⟩
theorem D_skip {o : VOp} {w' : World} (h : (VOp.sem o).run P w = .ok .skip w') (hk : k undef w') : D P o k w := ⟨by unfold D0; rw [h]; exact hk⟩

theorem Dr_cur (hJ : Jst J U) (H : Cur J U w l) {k : World → Prop} (hk : ∀ w', Cur J U w' l → w'.heap = w.heap → k w') : Dr w k := ⟨hk _ (H.step hJ (grown_drw w)) rfl⟩

theorem alloc_new (w : World) (o : Obj) : (w.alloc o).heap[w.heap.size]? = some o := by
  show (w.heap.push o)[w.heap.size]? = _
  simp
theorem add_alloc (hJ : Jst J U) (H : Cur J U w l) (o : Obj) : Cur J U (w.alloc o) (l ++ [.b w.heap.size o]) :=
  H.add hJ (World.grownBy_alloc w _ none) (alloc_new w o) fun b hb => Nat.le_of_eq hb.symm

theorem D_alloc (hJ : Jst J U) (H : Cur J U w l) {t : TypeId} {z : Value} [hz : Zr P t z]
    (hk : ∀ w' b, Cur J U w' (l ++ [.b b (.cells z.cells t)]) → k (.pointer (some ⟨b, 0, none⟩)) w') : D P (.alloc t) k w := by
  obtain ⟨i, h1, h2⟩ := hz.out
  have hr : (VOp.sem (.alloc t)).run P w = .ok (.value (.pointer (some ⟨w.heap.size, 0, none⟩))) (w.alloc (.cells z.cells t)) := by
    simp only [VOp.sem, Instr.alloc]
    simp [Sem.run_bind, zeroValue, typeInfo, h1, h2, newVar, newRow]
  exact D_run hr (hk _ _ (add_alloc hJ H _))

theorem D_box (hJ : Jst J U) (H : Cur J U w l) {t : TypeId} {v : Value}
    (hk : ∀ w' b, Cur J U w' (l ++ [.b b (.cells v.cells t)]) → k (.pointer (some ⟨b, 0, none⟩)) w') : D P (.box t v) k w := by
  have hr : (VOp.sem (.box t v)).run P w = .ok (.value (.pointer (some ⟨w.heap.size, 0, none⟩))) (w.alloc (.cells v.cells t)) := by
    simp only [VOp.sem, Instr.box]
    simp [Sem.run_bind, newVar, newRow]
  exact D_run hr (hk _ _ (add_alloc hJ H _))

theorem grown_setRow (w : World) (b : Nat) (c : Array Value) : w.grownBy (w.setRow b c) (some b) :=
  ⟨rfl, rfl, rfl, by simp [World.setRow], fun k _ hne => setRow_other w b k c fun e => hne (by rw [e])⟩

/-- A row with some of its cells written over. -/
def splice (c : Array Value) (o : Nat) (vs : List Value) : Array Value := (c.toList.take o ++ vs ++ c.toList.drop (o + vs.length)).toArray

theorem run_storeVar {t : TypeId} {b o n : Nat} {v : Value} {c : Array Value} {ty : TypeId} (hs : Sz1 P t n) (hn : v.cells.size = n) (h1 : ∀ x ∈ v.cells.toList, x.oneCell' = true)
    (hb : w.heap[b]? = some (.cells c ty (0, 0))) (ho : o + n ≤ c.size) : (storeVar t ⟨b, o, none⟩ v).run P w = .ok () (w.setRow b (splice c o v.cells.toList)) := by
  obtain ⟨j, h2, h3⟩ := hs.out
  have h4 := run_storeCells_at (P := P) b o ty v.cells.toList 0 c w hb (by simp only [Nat.add_zero, Array.length_toList, hn]; exact ho) h1
  simp only [Nat.add_zero] at h4
  unfold storeVar
  simp [Sem.run_bind, sizeOf, typeInfo, h2, h3, hn, h4, splice]

theorem D_store (hJ : Jst J U) (H : Cur J U w l) {t : TypeId} {b o i n : Nat} {v : Value} {c : Array Value} {ty : TypeId} [hs : Sz1 P t n] (hi : l[i]? = some (.b b (.cells c ty (0, 0)))) (hn : v.cells.size = n) (h1 : ∀ x ∈ v.cells.toList, x.oneCell' = true) (ho : o + n ≤ c.size)
    (hk : ∀ w', Cur J U w' (l.set i (.b b (.cells (splice c o v.cells.toList) ty (0, 0)))) → k undef w') : D P (.store t (.pointer (some ⟨b, o, none⟩)) v) k w := by
  have hb := H.blk hi
  have hr : (VOp.sem (.store t (.pointer (some ⟨b, o, none⟩)) v)).run P w = .ok .skip (w.setRow b (splice c o v.cells.toList)) := by
    simp only [VOp.sem, Instr.storeAt, Instr.sureAddr, pure_bind]
    rw [Sem.run_bind, run_storeVar hs hn h1 hb ho]
    rfl
  exact D_skip hr (hk _ (H.turn hJ hi (grown_setRow w b _) (fun b' h => (Option.some.inj h).symm) (setRow_heap w b c _ ty (0, 0) hb) fun b h => .inl h))

/-- A load from a resource of one's own. -/
theorem own_blk (H : Cur J U w l) {i b : Nat} {c : Array Value} {ty : TypeId} {fr : Nat × Nat} (hi : l[i]? = some (.b b (.cells c ty fr))) : Blk w b c := ⟨ty, fr, H.blk hi⟩

/-- make([]T, n, c) -/
theorem D_make (hJ : Jst J U) (H : Cur J U w l) {t e : TypeId} {sz y : Nat} {z : Value} [hs : Sl P t e sz y z] {kl kc : IntKind} {n c : Nat} (hnc : n ≤ c)
    (hb : y * c ≤ 281474976710656) (h63 : c ≤ 9223372036854775807)
    (hk : ∀ w' b, Cur J U w' (l ++ [.b b (.cells (madeCells z.cells (c * sz)) e)]) → k (.slice (some ⟨b, 0, none⟩) n c) w') : D P (.make t (.int kl n) (.int kc c)) k w := by
  obtain ⟨ht, i, hi, rfl, rfl, hz, _⟩ := hs.out
  have hb' : (i.bytes : Int) * (c : Int) ≤ 281474976710656 := by
    have h : ((i.bytes * c : Nat) : Int) ≤ 281474976710656 := by omega
    rwa [Int.natCast_mul] at h
  have hr := run_make (P := P) w t e i z ht hi hz kl kc n c (by omega) (by omega) hb' (by omega)
  simp only [Int.toNat_natCast] at hr
  have hr' : (VOp.sem (.make t (.int kl n) (.int kc c))).run P w = .ok (.value (.slice (some ⟨w.heap.size, 0, none⟩) n c)) (w.alloc (.cells (madeCells z.cells (c * i.size)) e)) := by
    simp only [VOp.sem]
    rw [Sem.run_bind, hr]
    rfl
  exact D_run hr' (hk _ _ (add_alloc hJ H _))

/-- A slice literal (also what append's and a variadic call's arguments are laid in). -/
theorem D_mkSl (hJ : Jst J U) (H : Cur J U w l) {t e : TypeId} {sz y : Nat} {z : Value} {n : Nat} {ps : List (Nat × Value)} {c : Array Value} [hs : Sl P t e sz y z]
    (hn : n * sz ≤ 16777216) (hc : Instr.fill (fun j => some (j * sz, sz)) ((Array.range (n * sz)).map ((if n * sz = 0 then #[] else z.cells)[· % (if n * sz = 0 then #[] else z.cells).size]!)) ps = some c)
    (hk : ∀ w' b, Cur J U w' (l ++ [.b b (.cells c e)]) → k (.slice (some ⟨b, 0, none⟩) n n) w') : D P (.mkSl t n ps) k w := by
  obtain ⟨ht, i, hi, rfl, rfl, hz, _⟩ := hs.out
  have hr : (VOp.sem (.mkSl t n ps)).run P w = .ok (.value (.slice (some ⟨w.heap.size, 0, none⟩) n n)) (w.alloc (.cells c e)) := by
    simp only [VOp.sem, Instr.buildSlice]
    have h16 : ¬ n * i.size > 2 ^ 24 := by omega
    by_cases h0 : n * i.size = 0
    · have hc' := hc
      simp [h0] at hc'
      simp [Sem.run_bind, run_underlying ht, sizeOf, typeInfo, hi, h0, newRow]
      rw [hc']
      simp [Sem.run_bind]
    · have hc' := hc
      simp [h0] at hc'
      simp [Sem.run_bind, run_underlying ht, sizeOf, typeInfo, hi, h0, h16, zeroValue, hz, newRow]
      rw [hc']
      simp [Sem.run_bind]
  exact D_run hr (hk _ _ (add_alloc hJ H _))

theorem D_append (hJ : Jst J U) (H : Cur J U w l) {t e ty : TypeId} {z : Value} {size bytes : Nat} [hsl : Sl P t e size bytes z] (hsz : 0 < size)
    {sv : Value} {n idx : Nat} {xs : List Value} (hs : l[idx]? = some (.s sv e size n xs)) {b' o' m c' : Nat} {arr : Array Value} {news : List Value} (hb : Blk w b' arr) (hn : (arr.toList.drop o').take news.length = news) (hm : news.length = m * size) (h1 : ∀ u ∈ news, u.oneCell' = true)
    (h63 : n + m ≤ maxLen) (hbytes : (n + m) * bytes ≤ 140737488355328)
    (hk : ∀ w' sv', Cur J U w' (l.set idx (.s sv' e size (n + m) (xs ++ news))) → k sv' w') : D P (.bi .append #[t, t] ty [sv, .slice (some ⟨b', o', none⟩) m c']) k w := by
  obtain ⟨ht, i, hi, rfl, rfl, hz, hzs⟩ := hsl.out
  have hown : w.ownsRow 0 e i.size sv n xs := H.ok _ (List.mem_of_getElem? hs)
  have hnews : ∀ j u, news[j]? = some u → w.cell? ((⟨b', o', none⟩ : Addr).add j) = some u := by
    intro j u hu
    rw [addr_add]
    refine hb.cell ?_
    have hj : j < news.length := (List.getElem?_eq_some_iff.1 hu).1
    rw [← hn, List.getElem?_take_of_lt hj, List.getElem?_drop] at hu
    simpa using hu
  have fin : ∀ v' w', (Builtin.append_ #[t, t] ty #[sv, .slice (some ⟨b', o', none⟩) m c']).run P w = .ok v' w' → w.grownBy w' sv.ownBlock → w'.ownsRow 0 e i.size v' (n + m) (xs ++ news) → (∀ b, v'.ownBlock = some b → sv.ownBlock = some b ∨ w.heap.size ≤ b) →
      D P (.bi .append #[t, t] ty [sv, .slice (some ⟨b', o', none⟩) m c']) k w := by
    intro v' w' hr hg ho hf
    refine D_run (v := v') (w' := w') ?_ (hk _ _ (H.turn hJ hs hg (fun _ h => h) ho hf))
    simp only [VOp.sem, builtin]
    rw [Sem.run_bind, hr]
    rfl
  obtain ⟨v', w', hr, ho, hg, _⟩ := run_append_own (P := P) w 0 t ty e i z i.size i.bytes ht hi hz rfl rfl hzs hsz sv n xs hown ⟨b', o', none⟩ m c' news hm hnews h1 h63 hbytes (Nat.zero_le _)
  refine fin v' w' hr hg ho fun b hb' => ?_
  have hsmall : n + m ≤ 9223372036854775807 := by simp only [maxLen] at h63; omega
  rcases hown.2 with ⟨rfl, rfl⟩ | ⟨g, cap, cur, rfl, hbg, hgg, hnc, hcm, hcs, htake⟩
  · by_cases hm0 : m = 0
    · subst hm0
      have : (Builtin.append_ #[t, t] ty #[.slice none 0 0, .slice (some ⟨b', o', none⟩) 0 c']).run P w = .ok (.slice none 0 0) w := by
        simp [Builtin.append_, run_underlying ht, sizeOf, typeInfo, hi, Builtin.lenOf, Builtin.firstCells, loadCells, loadCellsFrom]
      rw [this] at hr
      cases hr
      simp [Value.ownBlock] at hb'
    · have := run_append_nil (P := P) w t ty e i z ht hi hz ⟨b', o', none⟩ m c' news hm hnews (by omega) (by omega) (by have hb := hbytes; simp only [Nat.zero_add] at hb; omega)
      rw [this] at hr
      cases hr
      simp only [Value.ownBlock, Option.some.injEq] at hb'
      exact .inr (by omega)
  · by_cases hroom : n + m ≤ cap
    · have hfit : n * i.size + news.length ≤ cur.size := by rw [hm, hcs, ← Nat.add_mul]; exact Nat.mul_le_mul_right _ hroom
      have := run_append_room (P := P) w t ty e i ht hi g n cap cur hgg ⟨b', o', none⟩ m c' news hm hnews h1 hroom hfit
      rw [this] at hr
      cases hr
      exact .inl hb'
    · have holds : ∀ j u, xs[j]? = some u → w.cell? ((⟨g, 0, none⟩ : Addr).add j) = some u := hown.cells (g := g) rfl
      have := run_append_grow (P := P) w t ty e i z ht hi hz ⟨g, 0, none⟩ n cap xs hown.1 holds ⟨b', o', none⟩ m c' news hm hnews (by omega) (by omega) (growslice_fits (by omega) hbytes)
      rw [this] at hr
      cases hr
      simp only [Value.ownBlock, Option.some.injEq] at hb'
      exact .inr (by omega)

/-- A function of the program with a body. -/
class Fo (P : Program) (f : FuncId) : Prop where
  out : ∃ fn, P.funcs[f]? = some fn ∧ fn.body.isSome = true ∧ fn.name ≠ "runtime.NumGoroutine"

theorem D_calls {f : FuncId} {args : List Value} {cap : Array Value} [hf : Fo P f] (hc : Calls P f (args.toArray ++ cap) w (Ret k)) : D P (.call (.func (.func f) #[] cap) args) k w := by
  obtain ⟨fn, h1, h2, h3⟩ := hf.out
  have hr : (VOp.sem (.call (.func (.func f) #[] cap) args)).run P w = .ok (.enter f (args.toArray ++ cap)) w := by
    simp only [VOp.sem, Deferred.ofValue, pure_bind, invoke, callFunc]
    simp [Sem.run_bind, program, h1, h3, Sem.run]
    intro h; rw [h] at h2; simp at h2
  refine ⟨?_⟩
  unfold D0
  rw [hr]
  exact hc
/-- A call, by its contract; the callee only makes memory. -/
theorem D_call (hJ : Jst J U) (H : Cur J U w l) {f : FuncId} {args : List Value} {cap : Array Value} {Q : Value → World → Prop} [hf : Fo P f]
    (hc : Calls P f (args.toArray ++ cap) w (Ret fun v w' => Below w.heap.size w w' ∧ Q v w')) (hk : ∀ v w', Cur J U w' l → Below w.heap.size w w' → Q v w' → k v w') : D P (.call (.func (.func f) #[] cap) args) k w := by
  refine D_calls (Calls.mono hc fun e w' h => ?_)
  cases e with
  | returned v => exact hk v w' (H.step hJ (grown_of_below h.1)) h.1 h.2
  | panicked c => exact h.elim
  | outgrown => exact h.elim
end

/-- What a call of a function that only makes memory comes to. -/
abbrev PureC (P : Program) (f : FuncId) (args : List Value) (w : World) (Q : Value → World → Prop) : Prop := Calls P f args.toArray w (Ret fun v w' => Below w.heap.size w w' ∧ Q v w')
/-- The same of one that leaves the world as it is. -/
abbrev ConstC (P : Program) (f : FuncId) (args : List Value) (w : World) (v : Value) : Prop := Calls P f args.toArray w (Ret fun v' w' => v' = v ∧ w' = w)
section
variable {P : Program} {w : World} {k : KV} {f : FuncId} {args : List Value} {v : Value}
theorem D_const [hf : Fo P f] (hc : ConstC P f args w v) (hk : k v w) : D P (.call (.func (.func f) #[] #[]) args) k w :=
  D_calls (by
    rw [Array.append_empty]
    refine Calls.mono hc fun e w' h => ?_
    cases e with
    | returned v' => obtain ⟨rfl, rfl⟩ := h; exact hk
    | panicked c => exact h.elim
    | outgrown => exact h.elim)
end
theorem b_foot {b k : Nat} {o : Obj} : (Rs.b b o).foot k = (k = b) := rfl
theorem b_ok {b : Nat} {o : Obj} {w : World} : (Rs.b b o).ok w = (w.heap[b]? = some o) := rfl
theorem s_foot {v : Value} {e : TypeId} {size n k : Nat} {xs : List Value} : (Rs.s v e size n xs).foot k = (v.ownBlock = some k) := rfl
theorem s_ok {v : Value} {e : TypeId} {size n : Nat} {xs : List Value} {w : World} : (Rs.s v e size n xs).ok w = w.ownsRow 0 e size v n xs := rfl
attribute [irreducible] Rs.b Rs.s
end Go.Rv
