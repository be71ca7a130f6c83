/- Part of the proof that YteemoolcphhkbaaGreat holds whatever the input: a text of contracts, laws and steps; no condition. -/
import Derived.Test.YteemoolcphhkbaaGreatRvE
import Derived.Laws.Tables
import Derived.Great.FillDense
set_option linter.all false
set_option autoImplicit false
namespace Go.Rv
/-! ### Steps with literal lists, and with numbers in bounds -/
section
variable {P : Program} {J : World → Prop} {U : Nat → Prop} {w : World} {l : List Rs} {k : KV} {v : Value}

def inI (k : IntKind) (x : Int) : Prop := k.min ≤ x ∧ x ≤ k.max
theorem wrap_in {k : IntKind} {x : Int} (h : k.min ≤ x ∧ x ≤ k.max) : k.wrap x = x := by
  revert h
  cases k <;> simp [IntKind.wrap, IntKind.min, IntKind.max, IntKind.bits, IntKind.signed] <;> intro h1 h2 <;> (try (split)) <;> omega

theorem ea_i64 {t : TypeId} {x y : Int} (h : -9223372036854775808 ≤ x + y ∧ x + y ≤ 9223372036854775807) : Ev P (.bin .add t (.int .i64 x) (.int .i64 y)) w (.int .i64 (x + y)) := by
  have := ev_add (P := P) (w := w) (ik := .i64) (t := t) (x := x) (y := y)
  rwa [wrap_in (by simpa [IntKind.min, IntKind.max, IntKind.bits, IntKind.signed] using h)] at this
theorem es_i64 {t : TypeId} {x y : Int} (h : -9223372036854775808 ≤ x - y ∧ x - y ≤ 9223372036854775807) : Ev P (.bin .sub t (.int .i64 x) (.int .i64 y)) w (.int .i64 (x - y)) := by
  have := ev_sub (P := P) (w := w) (ik := .i64) (t := t) (x := x) (y := y)
  rwa [wrap_in (by simpa [IntKind.min, IntKind.max, IntKind.bits, IntKind.signed] using h)] at this
theorem em_i64 {t : TypeId} {x y : Int} (h : -9223372036854775808 ≤ x * y ∧ x * y ≤ 9223372036854775807) : Ev P (.bin .mul t (.int .i64 x) (.int .i64 y)) w (.int .i64 (x * y)) := by
  have := ev_mul (P := P) (w := w) (ik := .i64) (t := t) (x := x) (y := y)
  rwa [wrap_in (by simpa [IntKind.min, IntKind.max, IntKind.bits, IntKind.signed] using h)] at this
theorem er_pos {ik : IntKind} {t : TypeId} {x y : Int} (h : 0 ≤ x ∧ 0 < y) : Ev P (.bin .rem t (.int ik x) (.int ik y)) w (.int ik (x % y)) := by
  have := ev_rem (P := P) (w := w) (ik := ik) (t := t) (x := x) (y := y) (by omega)
  rwa [Int.tmod_eq_emod_of_nonneg h.1] at this
theorem eq_pos {t : TypeId} {x y : Int} (h : 0 ≤ x ∧ x ≤ 9223372036854775807 ∧ 0 < y) : Ev P (.bin .quo t (.int .i64 x) (.int .i64 y)) w (.int .i64 (x / y)) := by
  have := ev_quo (P := P) (w := w) (ik := .i64) (t := t) (x := x) (y := y) (by omega)
  rw [Int.tdiv_eq_ediv_of_nonneg h.1, wrap_in] at this
  · exact this
  · have h1 : 0 ≤ x / y := Int.ediv_nonneg h.1 (by omega)
    have h2 : x / y ≤ x := Int.ediv_le_self _ h.1
    simp [IntKind.min, IntKind.max, IntKind.bits, IntKind.signed]
    omega
theorem ec_i64 {s t : TypeId} {sk jk : IntKind} {x : Int} [hs : It P s jk] [h : It P t .i64] (hx : -9223372036854775808 ≤ x ∧ x ≤ 9223372036854775807) : Ev P (.conv s t (.int sk x)) w (.int .i64 x) := by
  have := ev_conv (P := P) (w := w) (s := s) (t := t) (sk := sk) (x := x)
  rwa [wrap_in (by simpa [IntKind.min, IntKind.max, IntKind.bits, IntKind.signed] using hx)] at this

/-! Loads, in lists -/
def BlkL (w : World) (b : Nat) (c : List Value) : Prop := Blk w b c.toArray
theorem el_sc {t : TypeId} {b o : Nat} {c : List Value} [hs : Sc P t] (h : BlkL w b c) (hv : c[o]? = some v) : Ev P (.load t (.pointer (some ⟨b, o, none⟩))) w v :=
  ev_load h (by simpa using hv)
theorem el_ag {t : TypeId} {b o n : Nat} {c cs : List Value} [hs : Ag P t n] (h : BlkL w b c) (hc : (c.drop o).take n = cs) (hn : cs.length = n) : Ev P (.load t (.pointer (some ⟨b, o, none⟩))) w (.agg cs.toArray) :=
  ev_load_ag (n := n) h hn (by simpa [hn] using hc)
theorem own_l (H : Cur J U w l) {i b : Nat} {c : List Value} {ty : TypeId} {fr : Nat × Nat} (hi : l[i]? = some (.b b (.cells c.toArray ty fr))) : BlkL w b c := own_blk H hi

class ZrL (P : Program) (t : TypeId) (z : outParam (List Value)) : Prop where
  out : ∃ i v, P.info? t = some i ∧ i.zero = some v ∧ v.cells = z.toArray
theorem D_allocL (hJ : Jst J U) (H : Cur J U w l) {t : TypeId} {z : List Value} [hz : ZrL P t z]
    (hk : ∀ w' b, Cur J U w' (l ++ [.b b (.cells z.toArray t)]) → k (.pointer (some ⟨b, 0, none⟩)) w') : D P (.alloc t) k w := by
  obtain ⟨i, v, h1, h2, h3⟩ := hz.out
  haveI : Zr P t v := ⟨i, h1, h2⟩
  refine D_alloc hJ H fun w' b H' => hk w' b ?_
  rwa [h3] at H'
theorem D_boxL (hJ : Jst J U) (H : Cur J U w l) {t : TypeId} {c : List Value} (hv : v.cells = c.toArray)
    (hk : ∀ w' b, Cur J U w' (l ++ [.b b (.cells c.toArray t)]) → k (.pointer (some ⟨b, 0, none⟩)) w') : D P (.box t v) k w := by
  refine D_box hJ H fun w' b H' => hk w' b ?_
  rwa [hv] at H'
theorem D_storeL (hJ : Jst J U) (H : Cur J U w l) (i : Nat) {t : TypeId} {b o n : Nat} {c c' vs : List Value} {l' : List Rs} {ty : TypeId} [hs : Sz1 P t n] (hi : l[i]? = some (.b b (.cells c.toArray ty (0, 0)))) (hv : v.cells = vs.toArray) (hn : vs.length = n) (h1 : vs.all (fun x => x.oneCell') = true) (ho : o + n ≤ c.length)
    (hc : c.take o ++ (vs ++ c.drop (o + n)) = c') (hl : l.set i (.b b (.cells c'.toArray ty (0, 0))) = l')
    (hk : ∀ w', Cur J U w' l' → k undef w') : D P (.store t (.pointer (some ⟨b, o, none⟩)) v) k w := by
  refine D_store hJ H hi (by rw [hv]; simpa using hn) (by rw [hv]; intro x hx; exact List.all_eq_true.1 h1 x (by simpa using hx)) (by simpa using ho) fun w' H' => hk w' ?_
  rw [hv] at H'
  simp only [splice, hn, List.append_assoc] at H'
  rw [hc, hl] at H'
  exact H'
/-! Literals of structs and arrays -/
def fillL (pl : List (Nat × Nat)) (z : List Value) : List (Nat × Value) → Option (List Value)
  | [] => some z
  | (i, v) :: r => match pl[i]? with
    | some (o, n) => if v.cells.toList.length = n ∧ o + n ≤ z.length then fillL pl (z.take o ++ (v.cells.toList ++ z.drop (o + n))) r else none
    | none => none

theorem foldl_set_list (off : Nat) (l cs : List Value) (h : off + l.length ≤ cs.length) :
    (l.toArray.zipIdx.foldl (fun cs (x : Value × Nat) => cs.setIfInBounds (off + x.2) x.1) cs.toArray) = (cs.take off ++ (l ++ cs.drop (off + l.length))).toArray := by
  have h0 := Go.Great.foldl_set off l 0 cs.toArray
  rw [← Array.foldl_toList]
  simp only [Array.toList_zipIdx]
  obtain ⟨h1, h2⟩ := h0
  apply Array.ext_getElem?
  intro k
  rw [h2 k]
  simp only [Nat.add_zero, List.size_toArray, List.getElem?_toArray]
  by_cases hk : k < off
  · rw [if_neg (by omega), List.getElem?_append_left (by simp; omega), List.getElem?_take_of_lt hk]
  · by_cases hk2 : k < off + l.length
    · rw [if_pos (by omega), List.getElem?_append_right (by simp; omega), List.getElem?_append_left (by simp; omega)]
      congr 1
      simp
      omega
    · rw [if_neg (by omega), List.getElem?_append_right (by simp; omega), List.getElem?_append_right (by simp; omega)]
      simp only [List.getElem?_drop, List.length_take]
      congr 1
      omega
theorem fill_of {pl : List (Nat × Nat)} {f : Nat → Option (Nat × Nat)} (hf : ∀ i p, pl[i]? = some p → f i = some p) : ∀ {ps : List (Nat × Value)} {z c : List Value}, fillL pl z ps = some c → Instr.fill f z.toArray ps = some c.toArray
  | [], z, c, h => by simp only [fillL, Option.some.injEq] at h; subst h; rfl
  | (i, v) :: r, z, c, h => by
    simp only [fillL] at h
    split at h
    · rename_i o n hp
      split at h
      · rename_i hc
        have hvs : v.cells.size = n := by simpa using hc.1
        simp only [Instr.fill, hf i _ hp]
        rw [if_neg (by simp [hvs]; omega)]
        have h2 := foldl_set_list o v.cells.toList z (by omega)
        rw [Array.toArray_toList] at h2
        rw [h2]
        rw [← hc.1] at h
        exact fill_of hf h
      · cases h
    · cases h

/-- A struct or array type: the places of its parts, and its zero's cells. -/
class Bd (P : Program) (t : TypeId) (pl : outParam (List (Nat × Nat))) (z : outParam (List Value)) : Prop where
  out : ∀ ps c, fillL pl z ps = some c → P.built t ps = some c.toArray
theorem ev_build {t : TypeId} {pl : List (Nat × Nat)} {z : List Value} {ps : List (Nat × Value)} {c : List Value} [h : Bd P t pl z] (hc : fillL pl z ps = some c) : Ev P (.build t ps) w (.agg c.toArray) := by
  have := run_build (P := P) w t ps.toArray c.toArray (h.out _ _ hc)
  unfold Ev
  simp only [VOp.sem]
  rw [Sem.run_bind, this]
  rfl
def bdB (P : Program) (it : Option TypeInfo) (d : Option TypeDesc) (pl : List (Nat × Nat)) (n e : Nat) : Bool :=
  match d with
  | some (.struct fs) => (fs.toList.mapM (fun f => (P.info? f.type).map fun i => (f.offset, i.size))) == some pl
  | some (.array m e') => Nat.beq e' e && (match P.info? e' with | some j => pl == (List.range n).map (fun i => (i * j.size, j.size)) | none => false)
  | _ => false
theorem bd_of {t : TypeId} {pl : List (Nat × Nat)} {z : List Value} {v : Value} (n e : Nat) (h : bdB P (P.info? t) (P.underlying t) pl n e = true) (hz : (P.info? t).bind (·.zero) = some v) (hv : v.cells = z.toArray) : Bd P t pl z := by
  refine ⟨fun ps c hc => ?_⟩
  cases hi : P.info? t with
  | none => rw [hi] at hz; cases hz
  | some it =>
    rw [hi] at hz
    have hz' : it.zero = some v := hz
    unfold bdB at h
    unfold Program.built
    rw [hi]
    split at h
    · rename_i fs hd
      have h := eq_of_beq h
      simp only [hd, hz', h, hv]
      exact fill_of (fun i p hp => by simpa using hp) hc
    · rename_i m e' hd
      rw [Bool.and_eq_true] at h
      obtain ⟨h1, h2⟩ := h
      split at h2
      · rename_i j hj
        have h2 := eq_of_beq h2
        simp only [hd, hz', hj, hv]
        refine fill_of (fun i p hp => ?_) hc
        rw [h2] at hp
        simp only [List.getElem?_map] at hp
        cases hr : (List.range n)[i]? with
        | none => rw [hr] at hp; cases hp
        | some i' =>
          rw [hr] at hp
          have := List.getElem?_eq_some_iff.1 hr
          simp at this
          cases hp
          rw [this.2]
      · cases h2
    · cases h
theorem zrl_of {t : TypeId} {z : List Value} {v : Value} (h : (P.info? t).bind (·.zero) = some v) (hv : v.cells = z.toArray) : ZrL P t z := by
  cases hi : P.info? t with
  | none => rw [hi] at h; cases h
  | some i => rw [hi] at h; exact ⟨i, v, hi, h, hv⟩
end

/-! Array types -/
class Ar (P : Program) (t : TypeId) (n : outParam Nat) (e : outParam TypeId) (m : outParam Nat) : Prop where
  out : P.underlying t = some (.array n e) ∧ ∃ j, P.info? e = some j ∧ j.size = m
section
variable {P : Program} {w : World} {v : Value}
def arB (d : Option TypeDesc) (n e : Nat) : Bool := match d with | some (.array n' e') => Nat.beq n' n && Nat.beq e' e | _ => false
theorem ar_of {t e : TypeId} {n m : Nat} (h : arB (P.underlying t) n e = true) (hm : szI (P.info? e) m = true) : Ar P t n e m := by
  unfold arB at h
  split at h
  · rename_i n' e' hd
    rw [Bool.and_eq_true] at h
    have h1 := Nat.eq_of_beq_eq_true h.1
    have h2 := Nat.eq_of_beq_eq_true h.2
    subst h1
    subst h2
    exact ⟨hd, sz_of hm⟩
  · cases h
theorem ev_ia_ar {t e : TypeId} {b o m n : Nat} {ik : IntKind} {i : Int} [h : Ar P t n e m] (hi : 0 ≤ i ∧ i < n) :
    Ev P (.ia t (.pointer (some ⟨b, o, none⟩)) (.int ik i)) w (.pointer (some ⟨b, o + i.toNat * m, none⟩)) := by
  obtain ⟨h2, j, h3, h4⟩ := h.out
  unfold Ev
  simp only [VOp.sem, Instr.indexAt, asIntOf, pure_bind]
  simp [Sem.run_bind, run_underlying h2, hi.1, hi.2, sizeOf, typeInfo, h3, h4, addr_add, Instr.sureAddr]
theorem ev_idx_ar_sc {t e : TypeId} {m n : Nat} {ik : IntKind} {i : Int} {c : List Value} [h : Ar P t n e m] [hs : Sc P e] (hi : 0 ≤ i ∧ i < n) (hv : c[i.toNat * m]? = some v) :
    Ev P (.idx t (.agg c.toArray) (.int ik i)) w v := by
  obtain ⟨h2, j, h3, h4⟩ := h.out
  have h5 := run_isAgg_sc (w := w) hs
  have h6 : (part e c.toArray (i.toNat * m)).run P w = .ok v w := by simp [part, Sem.run_bind, h5, hv]
  have h7 : (Instr.index t (.agg c.toArray) (.int ik i)).run P w = .ok v w := by
    simp [Instr.index, asIntOf, Sem.run_bind, run_underlying h2, hi.1, hi.2, sizeOf, typeInfo, h3, h4, h6]
  unfold Ev
  simp only [VOp.sem]
  rw [Sem.run_bind, h7]
  rfl
theorem ev_idx_ar_ag {t e : TypeId} {m n m' : Nat} {ik : IntKind} {i : Int} {c cs : List Value} [h : Ar P t n e m] [hs : Ag P e m'] (hi : 0 ≤ i ∧ i < n) (hv : (c.drop (i.toNat * m)).take m = cs) :
    Ev P (.idx t (.agg c.toArray) (.int ik i)) w (.agg cs.toArray) := by
  obtain ⟨h2, j, h3, h4⟩ := h.out
  have h5 := run_isAgg_ag (P := P) (w := w) (t := e) (n := m') hs
  have h6 : (part e c.toArray (i.toNat * m)).run P w = .ok (.agg cs.toArray) w := by
    simp [part, Sem.run_bind, h5, sizeOf, typeInfo, h3, h4]
    exact hv
  have h7 : (Instr.index t (.agg c.toArray) (.int ik i)).run P w = .ok (.agg cs.toArray) w := by
    simp [Instr.index, asIntOf, Sem.run_bind, run_underlying h2, hi.1, hi.2, sizeOf, typeInfo, h3, h4, h6]
  unfold Ev
  simp only [VOp.sem]
  rw [Sem.run_bind, h7]
  rfl
theorem ev_fld_L {t ft : TypeId} {i off : Nat} {c : List Value} [h : Ft P t i off ft] [hs : Sc P ft] (hv : c[off]? = some v) : Ev P (.fld t (.agg c.toArray) i) w v := ev_fld (by simpa using hv)
theorem ev_fld_agL {t ft : TypeId} {i off n : Nat} {c cs : List Value} [h : Ft P t i off ft] [hs : Ag P ft n] (hc : (c.drop off).take n = cs) : Ev P (.fld t (.agg c.toArray) i) w (.agg cs.toArray) := by
  have := ev_fld_ag (P := P) (w := w) (t := t) (ft := ft) (i := i) (off := off) (n := n) (c := c.toArray)
  have e : c.toArray.extract off (off + n) = cs.toArray := by
    simp only [List.extract_toArray, List.extract_eq_take_drop]
    rw [← hc, Nat.add_sub_cancel_left]
  rwa [e] at this
end
end Go.Rv
