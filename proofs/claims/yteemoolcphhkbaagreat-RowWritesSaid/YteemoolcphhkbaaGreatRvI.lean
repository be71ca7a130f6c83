/- Part of the proof that YteemoolcphhkbaaGreat holds whatever the input: a text of contracts, laws and steps; no condition. -/
import Derived.Test.YteemoolcphhkbaaGreatRvH
import Derived.Maps.RangeRun
set_option linter.all false
set_option autoImplicit false
namespace Go.Rv
open Go.RowKit
/-! ### Maps whose keys are numbers -/
def keyI : Value → Int
  | .int _ x => x
  | _ => 0
/-- The entries of other keys. -/
def others (es : List MapEntry) (x : Int) : List MapEntry := es.filter fun e => keyI e.key ≠ x
structure MapI (es : List MapEntry) (clock : Nat) : Prop where
  key : ∀ e ∈ es, e.key = .int .i64 (keyI e.key)
  nodup : (es.map fun e => keyI e.key).Nodup
  born : (es.map (·.born)).Nodup
  old : ∀ e ∈ es, e.born < clock
def mget : List MapEntry → Int → Option Value
  | [], _ => none
  | e :: es, x => if keyI e.key = x then some e.val else mget es x
def mfind : List MapEntry → Int → Nat → Option (Nat × Value)
  | [], _, _ => none
  | e :: es, x, i => if keyI e.key = x then some (i, e.val) else mfind es x (i + 1)
theorem mapI_nil (c : Nat) : MapI [] c := ⟨(fun _ h => by cases h), List.nodup_nil, List.nodup_nil, (fun _ h => by cases h)⟩
theorem findNow_int {x : Int} : ∀ {es : List MapEntry} {i : Nat}, (∀ e ∈ es, e.key = .int .i64 (keyI e.key)) → Instr.findNow (.int .i64) (.int .i64 x) es i = some (mfind es x i)
  | [], i, _ => rfl
  | e :: es, i, h => by
    have h1 := h e (List.mem_cons_self ..)
    have ih := findNow_int (x := x) (es := es) (i := i + 1) fun e' he => h e' (List.mem_cons_of_mem _ he)
    obtain ⟨y, hy⟩ : ∃ y, e.key = .int .i64 y := ⟨_, h1⟩
    unfold Instr.findNow mfind
    rw [hy]
    show (match some (x == y) with | some true => _ | some false => _ | none => _) = some (if y = x then _ else _)
    by_cases hx : x = y
    · subst hx; simp
    · have : (x == y) = false := by simpa using hx
      rw [this, if_neg (fun h => hx h.symm)]
      exact ih
theorem mfind_get {x : Int} : ∀ {es : List MapEntry} {i : Nat}, mget es x = (mfind es x i).map (·.2)
  | [], _ => rfl
  | e :: es, i => by
    unfold mget mfind
    split
    · rfl
    · exact mfind_get
theorem mfind_some {x : Int} : ∀ {es : List MapEntry} {i j : Nat} {v : Value}, mfind es x i = some (j, v) → ∃ k e, j = i + k ∧ es[k]? = some e ∧ keyI e.key = x ∧ e.val = v
  | [], _, _, _, h => by cases h
  | e :: es, i, j, v, h => by
    unfold mfind at h
    split at h
    · rename_i hx
      cases h
      exact ⟨0, e, rfl, rfl, hx, rfl⟩
    · obtain ⟨k, e', h1, h2, h3, h4⟩ := mfind_some h
      exact ⟨k + 1, e', by omega, by simpa using h2, h3, h4⟩
theorem mfind_none {x : Int} : ∀ {es : List MapEntry} {i : Nat}, mfind es x i = none → ∀ e ∈ es, keyI e.key ≠ x
  | [], _, _, e, he => by cases he
  | e :: es, i, h, e', he => by
    unfold mfind at h
    split at h
    · cases h
    · rename_i hx
      rcases List.mem_cons.1 he with rfl | he
      · exact hx
      · exact mfind_none h e' he
theorem mget_none_iff {x : Int} : ∀ {es : List MapEntry}, mget es x = none ↔ ∀ e ∈ es, keyI e.key ≠ x
  | [] => by simp [mget]
  | e :: es => by
    unfold mget
    by_cases h : keyI e.key = x
    · simp [h]
    · simp [h, mget_none_iff (es := es)]
theorem mget_append {x : Int} : ∀ {es es' : List MapEntry}, mget (es ++ es') x = (mget es x).or (mget es' x)
  | [], es' => by simp [mget]
  | e :: es, es' => by
    simp only [List.cons_append, mget]
    split
    · rfl
    · exact mget_append
theorem mget_modify {x y : Int} {v : Value} : ∀ {es : List MapEntry} {k : Nat} {e : MapEntry}, es[k]? = some e → keyI e.key = x → (es.map fun e => keyI e.key).Nodup → e.key = .int .i64 x →
    mget (es.modify k fun e => { e with key := .int .i64 x, val := v }) y = if y = x then some v else mget es y
  | [], _, _, h, _, _, _ => by simp at h
  | e' :: es, 0, e, h, hx, hn, hk => by
    simp only [List.getElem?_cons_zero, Option.some.injEq] at h
    subst h
    simp only [List.modify_zero_cons, mget]
    show (if x = y then _ else _) = _
    by_cases hy : y = x
    · subst hy; simp
    · rw [if_neg (Ne.symm hy), if_neg hy, if_neg (by rw [hx]; exact Ne.symm hy)]
  | e' :: es, k + 1, e, h, hx, hn, hk => by
    simp only [List.getElem?_cons_succ] at h
    simp only [List.map_cons, List.nodup_cons] at hn
    simp only [List.modify_succ_cons, mget]
    have hne : keyI e'.key ≠ x := fun he => hn.1 (by rw [he, ← hx]; exact List.mem_map_of_mem (List.mem_of_getElem? h))
    rw [mget_modify h hx hn.2 hk]
    by_cases hy : keyI e'.key = y
    · subst hy; simp [hne]
    · simp [hy]
theorem mget_erase {x y : Int} : ∀ {es : List MapEntry} {k : Nat} {e : MapEntry}, es[k]? = some e → keyI e.key = x → (es.map fun e => keyI e.key).Nodup →
    mget (es.eraseIdx k) y = if y = x then none else mget es y
  | [], _, _, h, _, _ => by simp at h
  | e' :: es, 0, e, h, hx, hn => by
    simp only [List.getElem?_cons_zero, Option.some.injEq] at h
    subst h
    simp only [List.map_cons, List.nodup_cons] at hn
    simp only [List.eraseIdx_cons_zero, mget]
    by_cases hy : y = x
    · subst hy
      rw [if_pos rfl, mget_none_iff]
      intro e he hk
      exact hn.1 (by rw [hx, ← hk]; exact List.mem_map_of_mem (f := fun e : MapEntry => keyI e.key) he)
    · simp [hy, Ne.symm hy, hx]
  | e' :: es, k + 1, e, h, hx, hn => by
    simp only [List.getElem?_cons_succ] at h
    simp only [List.map_cons, List.nodup_cons] at hn
    simp only [List.eraseIdx_cons_succ, mget]
    have hne : keyI e'.key ≠ x := fun he => hn.1 (by rw [he, ← hx]; exact List.mem_map_of_mem (f := fun e : MapEntry => keyI e.key) (List.mem_of_getElem? h))
    rw [mget_erase h hx hn.2]
    by_cases hy : keyI e'.key = y
    · subst hy; simp [hne]
    · simp [hy]

section
variable {P : Program} {J : World → Prop} {U : Nat → Prop} {w : World} {l : List Rs} {k : KV}
/-- A map type with numbers for keys. -/
class Mp (P : Program) (t : TypeId) (kt : outParam TypeId) (e : outParam TypeId) (z : outParam Value) : Prop where
  out : P.underlying t = some (.map kt e) ∧ P.underlying kt = some (.int .i64) ∧ ∃ i, P.info? e = some i ∧ i.zero = some z
def mapB (d : Option TypeDesc) (k e : Nat) : Bool := match d with | some (.map k' e') => Nat.beq k' k && Nat.beq e' e | _ => false
theorem mp_of {t kt e : TypeId} {z : Value} (h : mapB (P.underlying t) kt e = true) (hk : i64B (P.underlying kt) = true) (hz : (P.info? e).bind (·.zero) = some z) : Mp P t kt e z := by
  unfold mapB at h
  split at h
  · rename_i k' e' hd
    rw [Bool.and_eq_true] at h
    have h1 := Nat.eq_of_beq_eq_true h.1
    have h2 := Nat.eq_of_beq_eq_true h.2
    subst h1
    subst h2
    refine ⟨hd, i64_of hk, ?_⟩
    cases hi : P.info? e' with
    | none => rw [hi] at hz; cases hz
    | some i => rw [hi] at hz; exact ⟨i, rfl, hz⟩
  · cases h
theorem run_checkKey {b : Bool} {n : Nat} {kt : TypeId} {x : Int} (h : P.underlying kt = some (.int .i64)) : (Instr.checkKey b (n + 1) kt (.int .i64 x)).run P w = .ok () w := by
  simp [Instr.checkKey, Sem.run_bind, run_underlying h]
theorem run_findKey {es : List MapEntry} {clock : Nat} {kt : TypeId} {x : Int} (h : P.underlying kt = some (.int .i64)) (hm : MapI es clock) : (Instr.findKey kt (.int .i64 x) es).run P w = .ok (mfind es x 0) w := by
  simp [Instr.findKey, Sem.run_bind, run_underlying h, findNow_int hm.key]
theorem ev_look {t kt e : TypeId} {z : Value} {b clock : Nat} {es : List MapEntry} {x : Int} [h : Mp P t kt e z] (hb : w.heap[b]? = some (.map es.toArray clock)) (hm : MapI es clock) :
    Ev P (.look t (.map (some b)) (.int .i64 x) false) w ((mget es x).getD z) := by
  obtain ⟨h1, h2, i, h3, h4⟩ := h.out
  have h5 : (Instr.lookup t (.map (some b)) (.int .i64 x) false).run P w = .ok ((mget es x).getD z) w := by
    have h6 := fun (b : Bool) => run_checkKey (P := P) (w := w) (b := b) (n := 9999) (x := x) h2
    have h7 := run_findKey (P := P) (w := w) (x := x) h2 hm
    rw [mfind_get (i := 0)]
    unfold Instr.lookup
    rw [Sem.run_bind, run_underlying h1]
    simp only [Result.andThen]
    simp only [Sem.run_bind, getObj, Sem.run, hb, Result.andThen, Sem.run_pure, h6, h7]
    cases hf : mfind es x 0 with
    | none => simp [Sem.run_bind, zeroValue, typeInfo, h3, h4]
    | some p => simp [Sem.run_bind]
  unfold Ev
  simp only [VOp.sem]
  rw [Sem.run_bind, h5]
  rfl
theorem D_mkMap (hJ : Jst J U) (H : Cur J U w l) {t : TypeId} (hk : ∀ w' b, Cur J U w' (l ++ [.b b (.map ([] : List MapEntry).toArray 0)]) → k (.map (some b)) w') : D P (.mkMap t none) k w := by
  have hr : (VOp.sem (.mkMap t none)).run P w = .ok (.value (.map (some w.heap.size))) (w.alloc (.map #[] 0)) := by
    simp only [VOp.sem, Sem.run_bind]
    rfl
  exact D_run hr (hk _ _ (add_alloc hJ H _))
theorem run_setMap {b : Nat} {es : Array MapEntry} {c : Nat} (hb : w.heap[b]? = some (.map es c)) (o : Obj) : (setObj b o).run P w = .ok () (Go.ChangeMaps.setBlock w b o) := by
  simp [setObj, Sem.run, hb, Go.ChangeMaps.setBlock]
theorem grown_setBlock (w : World) (b : Nat) (o : Obj) : w.grownBy (Go.ChangeMaps.setBlock w b o) (some b) :=
  ⟨rfl, rfl, rfl, by simp [Go.ChangeMaps.setBlock], fun k _ hne => by
    simp only [Go.ChangeMaps.setBlock]
    rw [Array.getElem?_setIfInBounds_ne (fun e => hne (by rw [e]))]⟩
theorem turn_map (hJ : Jst J U) (H : Cur J U w l) {idx b c c' : Nat} {es es' : Array MapEntry} (hi : l[idx]? = some (.b b (.map es c))) : Cur J U (Go.ChangeMaps.setBlock w b (.map es' c')) (l.set idx (.b b (.map es' c'))) :=
  H.turn hJ hi (grown_setBlock w b _) (fun b' h => by rw [b_foot]; exact (Option.some.inj h).symm) (by rw [b_ok]; exact Go.ChangeMaps.heap_setBlock_same (H.blk hi) _) fun b' h => .inl (by rw [b_foot] at *; exact h)

theorem mapI_push {es : List MapEntry} {clock : Nat} {x : Int} {v : Value} (h : MapI es clock) (hx : mget es x = none) : MapI (es ++ [MapEntry.mk (.int .i64 x) v clock]) (clock + 1) := by
  refine ⟨fun e he => ?_, ?_, ?_, fun e he => ?_⟩
  · rcases List.mem_append.1 he with he | he
    · exact h.key e he
    · rw [List.mem_singleton.1 he]; rfl
  · rw [List.map_append, List.nodup_append]
    refine ⟨h.nodup, by simp, fun a ha b hb => ?_⟩
    simp only [List.map_cons, List.map_nil, List.mem_singleton] at hb
    obtain ⟨e, he, rfl⟩ := List.mem_map.1 ha
    rw [hb]
    exact mget_none_iff.1 hx e he
  · rw [List.map_append, List.nodup_append]
    refine ⟨h.born, by simp, fun a ha b hb => ?_⟩
    simp only [List.map_cons, List.map_nil, List.mem_singleton] at hb
    obtain ⟨e, he, rfl⟩ := List.mem_map.1 ha
    have := h.old e he
    omega
  · rcases List.mem_append.1 he with he | he
    · have := h.old e he; omega
    · rw [List.mem_singleton.1 he]; exact Nat.lt_succ_self _
theorem modify_map {β : Type} (f : MapEntry → β) (g : MapEntry → MapEntry) : ∀ {es : List MapEntry} {k : Nat}, (∀ e, es[k]? = some e → f (g e) = f e) → (es.modify k g).map f = es.map f
  | [], k, _ => by cases k <;> rfl
  | e :: es, 0, h => by simp [List.modify_zero_cons, h e rfl]
  | e :: es, k + 1, h => by
    simp only [List.modify_succ_cons, List.map_cons]
    rw [modify_map f g fun e' he => h e' (by simpa using he)]
theorem mem_modify {g : MapEntry → MapEntry} {e : MapEntry} : ∀ {es : List MapEntry} {k : Nat}, e ∈ es.modify k g → e ∈ es ∨ ∃ e', es[k]? = some e' ∧ e = g e'
  | [], k, h => by cases k <;> simp at h
  | a :: es, 0, h => by
    simp only [List.modify_zero_cons, List.mem_cons] at h
    rcases h with h | h
    · exact .inr ⟨a, rfl, h⟩
    · exact .inl (List.mem_cons_of_mem _ h)
  | a :: es, k + 1, h => by
    simp only [List.modify_succ_cons, List.mem_cons] at h
    rcases h with h | h
    · exact .inl (by rw [h]; exact List.mem_cons_self ..)
    · rcases mem_modify h with h | ⟨e', h1, h2⟩
      · exact .inl (List.mem_cons_of_mem _ h)
      · exact .inr ⟨e', by simpa using h1, h2⟩
theorem mapI_modify {es : List MapEntry} {clock n : Nat} {x : Int} {v : Value} {e : MapEntry} (h : MapI es clock) (he : es[n]? = some e) (hx : keyI e.key = x) : MapI (es.modify n fun e => { e with key := .int .i64 x, val := v }) clock := by
  refine ⟨fun e' he' => ?_, ?_, ?_, fun e' he' => ?_⟩
  · rcases mem_modify he' with h' | ⟨e'', h1, rfl⟩
    · exact h.key e' h'
    · rfl
  · rw [modify_map (fun e => keyI e.key)]
    · exact h.nodup
    · intro e' h'; rw [he] at h'; cases h'; exact hx.symm
  · rw [modify_map (·.born)]
    · exact h.born
    · intro e' h'; rfl
  · rcases mem_modify he' with h' | ⟨e'', h1, rfl⟩
    · exact h.old e' h'
    · exact h.old e'' (List.mem_of_getElem? h1)
theorem mapI_erase {es : List MapEntry} {clock n : Nat} (h : MapI es clock) : MapI (es.eraseIdx n) clock := by
  have hs := List.eraseIdx_sublist es n
  exact ⟨fun e he => h.key e (hs.subset he), h.nodup.sublist (hs.map _), h.born.sublist (hs.map _), fun e he => h.old e (hs.subset he)⟩

theorem filter_push {es : List MapEntry} {clock : Nat} {x : Int} {v : Value} : others (es ++ [MapEntry.mk (.int .i64 x) v clock]) x = others es x := by
  simp [others, keyI]
theorem filter_modify {x : Int} {g : MapEntry → MapEntry} (hg : ∀ e, keyI (g e).key = x) : ∀ {es : List MapEntry} {k : Nat} {e : MapEntry}, es[k]? = some e → keyI e.key = x → others (es.modify k g) x = others es x
  | [], _, _, h, _ => by simp at h
  | a :: es, 0, e, h, hx => by
    simp only [List.getElem?_cons_zero, Option.some.injEq] at h
    subst h
    simp [others, hg, hx]
  | a :: es, k + 1, e, h, hx => by
    simp only [List.getElem?_cons_succ] at h
    have := filter_modify hg h hx
    unfold others at *
    simp only [List.modify_succ_cons, List.filter_cons]
    rw [this]
theorem D_mapup (hJ : Jst J U) (H : Cur J U w l) (idx : Nat) {t kt e : TypeId} {z v : Value} {b clock : Nat} {es : List MapEntry} {x : Int} [h : Mp P t kt e z] (hi : l[idx]? = some (.b b (.map es.toArray clock))) (hm : MapI es clock)
    (hk : ∀ w' es' c', Cur J U w' (l.set idx (.b b (.map es'.toArray c'))) → MapI es' c' → (∀ y, mget es' y = if y = x then some v else mget es y) → others es' x = others es x → k undef w') : D P (.mapup t (.map (some b)) (.int .i64 x) v) k w := by
  obtain ⟨h1, h2, i, h3, h4⟩ := h.out
  have hb := H.blk hi
  have h6 := fun (b : Bool) => run_checkKey (P := P) (w := w) (b := b) (n := 9999) (x := x) h2
  have h7 := run_findKey (P := P) (w := w) (x := x) h2 hm
  cases hf : mfind es x 0 with
  | none =>
    have hg : mget es x = none := by rw [mfind_get (i := 0), hf]; rfl
    have hr : (VOp.sem (.mapup t (.map (some b)) (.int .i64 x) v)).run P w = .ok .skip (Go.ChangeMaps.setBlock w b (.map (es ++ [MapEntry.mk (.int .i64 x) v clock]).toArray (clock + 1))) := by
      have h5 : (Instr.mapUpdate t (.map (some b)) (.int .i64 x) v).run P w = .ok () (Go.ChangeMaps.setBlock w b (.map (es ++ [MapEntry.mk (.int .i64 x) v clock]).toArray (clock + 1))) := by
        unfold Instr.mapUpdate
        rw [Sem.run_bind, run_underlying h1]
        simp only [Result.andThen]
        simp only [Sem.run_bind, getObj, Sem.run, hb, Result.andThen, Sem.run_pure, h6, h7, hf]
        rw [run_setMap hb]
        simp
      simp only [VOp.sem]
      rw [Sem.run_bind, h5]
      rfl
    refine D_skip hr (hk _ _ _ (turn_map hJ H hi) (mapI_push hm hg) (fun y => ?_) filter_push)
    rw [mget_append]
    by_cases hy : y = x
    · subst hy; rw [hg]; simp [mget, keyI]
    · rw [if_neg hy]
      simp only [mget, keyI, Ne.symm hy, if_false]
      cases mget es y <;> rfl
  | some p =>
    obtain ⟨n, e0, h8, h9, h10, h11⟩ := mfind_some (i := 0) (j := p.1) (v := p.2) (by rw [hf])
    have hkey : e0.key = .int .i64 x := by rw [hm.key e0 (List.mem_of_getElem? h9), h10]
    have hn : p.1 = n := by omega
    have hr : (VOp.sem (.mapup t (.map (some b)) (.int .i64 x) v)).run P w = .ok .skip (Go.ChangeMaps.setBlock w b (.map (es.modify n fun e => { e with key := .int .i64 x, val := v }).toArray clock)) := by
      have h5 : (Instr.mapUpdate t (.map (some b)) (.int .i64 x) v).run P w = .ok () (Go.ChangeMaps.setBlock w b (.map (es.modify n fun e => { e with key := .int .i64 x, val := v }).toArray clock)) := by
        unfold Instr.mapUpdate
        rw [Sem.run_bind, run_underlying h1]
        simp only [Result.andThen]
        simp only [Sem.run_bind, getObj, Sem.run, hb, Result.andThen, Sem.run_pure, h6, h7, hf]
        simp only [hn, List.getElem?_toArray, h9, Option.map_some, Option.getD_some, hkey]
        simp only [Instr.keyThatStays, Instr.sameBits, beq_self_eq_true, Bool.and_self, if_true, Sem.run_pure]
        rw [run_setMap hb]
        simp
      simp only [VOp.sem]
      rw [Sem.run_bind, h5]
      rfl
    exact D_skip hr (hk _ _ _ (turn_map hJ H hi) (mapI_modify hm h9 h10) (fun y => mget_modify h9 h10 hm.nodup hkey) (filter_modify (x := x) (g := fun e => { e with key := .int .i64 x, val := v }) (fun _ => rfl) h9 h10))

theorem D_delete (hJ : Jst J U) (H : Cur J U w l) (idx : Nat) {t kt e ty t2 : TypeId} {z : Value} {b clock : Nat} {es : List MapEntry} {x : Int} [h : Mp P t kt e z] (hi : l[idx]? = some (.b b (.map es.toArray clock))) (hm : MapI es clock)
    (hk : ∀ w' es', Cur J U w' (l.set idx (.b b (.map es'.toArray clock))) → MapI es' clock → (∀ y, mget es' y = if y = x then none else mget es y) → k (.tuple #[]) w') : D P (.bi .delete #[t, t2] ty [.map (some b), .int .i64 x]) k w := by
  obtain ⟨h1, h2, i, h3, h4⟩ := h.out
  have hb := H.blk hi
  have h6 := fun (b : Bool) => run_checkKey (P := P) (w := w) (b := b) (n := 9999) (x := x) h2
  have h7 := run_findKey (P := P) (w := w) (x := x) h2 hm
  have fin : ∀ es' : List MapEntry, (Builtin.delete_ #[t, t2] ty #[.map (some b), .int .i64 x]).run P w = .ok (.tuple #[]) (Go.ChangeMaps.setBlock w b (.map es'.toArray clock)) → MapI es' clock → (∀ y, mget es' y = if y = x then none else mget es y) →
      D P (.bi .delete #[t, t2] ty [.map (some b), .int .i64 x]) k w := by
    intro es' hr hm' hy
    refine D_run (v := .tuple #[]) ?_ (hk _ _ (turn_map hJ H hi) hm' hy)
    simp only [VOp.sem, builtin]
    rw [Sem.run_bind, hr]
    rfl
  cases hf : mfind es x 0 with
  | none =>
    have hg : mget es x = none := by rw [mfind_get (i := 0), hf]; rfl
    refine fin es ?_ hm fun y => ?_
    · simp [Builtin.delete_, Sem.run_bind, run_underlying h1, getObj, Sem.run, hb, Result.andThen, h6, h7, hf, run_setMap hb]
    · by_cases hy : y = x
      · subst hy; rw [hg, if_pos rfl]
      · rw [if_neg hy]
  | some p =>
    obtain ⟨n, e0, h8, h9, h10, h11⟩ := mfind_some (i := 0) (j := p.1) (v := p.2) (by rw [hf])
    have hn : p.1 = n := by omega
    refine fin (es.eraseIdx n) ?_ (mapI_erase hm) fun y => mget_erase h9 h10 hm.nodup
    have hlt := (List.getElem?_eq_some_iff.1 h9).1
    simp [Builtin.delete_, Sem.run_bind, run_underlying h1, getObj, Sem.run, hb, Result.andThen, h6, h7, hf, run_setMap hb, hn, Array.eraseIdxIfInBounds, hlt]

theorem D_clear (hJ : Jst J U) (H : Cur J U w l) (idx : Nat) {t kt e ty : TypeId} {z : Value} {b clock : Nat} {es : Array MapEntry} [h : Mp P t kt e z] (hi : l[idx]? = some (.b b (.map es clock)))
    (hk : ∀ w', Cur J U w' (l.set idx (.b b (.map ([] : List MapEntry).toArray clock))) → k (.tuple #[]) w') : D P (.bi .clear #[t] ty [.map (some b)]) k w := by
  obtain ⟨h1, h2, i, h3, h4⟩ := h.out
  have hb := H.blk hi
  refine D_run (v := .tuple #[]) (w' := Go.ChangeMaps.setBlock w b (.map ([] : List MapEntry).toArray clock)) ?_ (hk _ (turn_map hJ H hi))
  simp only [VOp.sem, builtin]
  simp [Builtin.clear_, Sem.run_bind, run_underlying h1, getObj, Sem.run, hb, Result.andThen, run_setMap hb]
end
theorem others_none {x : Int} {es : List MapEntry} (h : mget es x = none) : others es x = es := by
  rw [others, List.filter_eq_self]
  intro e he
  simpa using mget_none_iff.1 h e he
theorem others_some {x : Int} {v : Value} : ∀ {es : List MapEntry}, (es.map fun e => keyI e.key).Nodup → mget es x = some v → ∃ e, keyI e.key = x ∧ e.val = v ∧ es.Perm (e :: others es x)
  | [], _, h => by cases h
  | e :: es, hn, h => by
    simp only [List.map_cons, List.nodup_cons] at hn
    unfold mget at h
    split at h
    · rename_i hx
      cases h
      refine ⟨e, hx, rfl, ?_⟩
      have : others (e :: es) x = es := by
        simp only [others, List.filter_cons, hx, ne_eq, not_true_eq_false, decide_false, Bool.false_eq_true, if_false]
        rw [List.filter_eq_self]
        intro e' he'
        simp only [decide_eq_true_eq]
        intro h'
        exact hn.1 (by rw [hx, ← h']; exact List.mem_map_of_mem (f := fun e : MapEntry => keyI e.key) he')
      rw [this]
    · rename_i hx
      obtain ⟨e', h1, h2, h3⟩ := others_some hn.2 h
      refine ⟨e', h1, h2, ?_⟩
      have : others (e :: es) x = e :: others es x := by
        simp [others, hx]
      rw [this]
      exact (h3.cons e).trans (List.Perm.swap e' e _)
end Go.Rv
