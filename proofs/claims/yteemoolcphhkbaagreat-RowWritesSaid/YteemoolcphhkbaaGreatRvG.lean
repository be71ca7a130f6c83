/- Part of the proof that YteemoolcphhkbaaGreat holds whatever the input: a text of contracts, laws and steps; no condition. -/
import Derived.Test.YteemoolcphhkbaaGreatRvF
set_option linter.all false
set_option autoImplicit false
namespace Go.Rv
open Go.RowKit
section
variable {P : Program} {J : World → Prop} {U : Nat → Prop} {w w0 : World} {l : List Rs} {k : KV} {v : Value} {ik : IntKind} {t : TypeId} {x y : Int}
theorem ev_lss_t {c : Prop} [Decidable c] {b : Bool} (h : decide c = b) {o : VOp} (e : Ev P o w (.bool (decide c))) : Ev P o w (.bool b) := by rwa [h] at e
theorem D_ltc (h1 : x < y → k (.bool true) w) (h2 : ¬ x < y → k (.bool false) w) : D P (.bin .lss t (.int ik x) (.int ik y)) k w := by
  by_cases h : x < y
  · exact D_ev (ev_lss_t (decide_eq_true h) ev_lss) (h1 h)
  · exact D_ev (ev_lss_t (decide_eq_false h) ev_lss) (h2 h)
theorem D_lec (h1 : x ≤ y → k (.bool true) w) (h2 : ¬ x ≤ y → k (.bool false) w) : D P (.bin .leq t (.int ik x) (.int ik y)) k w := by
  by_cases h : x ≤ y
  · exact D_ev (ev_lss_t (decide_eq_true h) ev_leq) (h1 h)
  · exact D_ev (ev_lss_t (decide_eq_false h) ev_leq) (h2 h)
theorem D_gtc (h1 : y < x → k (.bool true) w) (h2 : ¬ y < x → k (.bool false) w) : D P (.bin .gtr t (.int ik x) (.int ik y)) k w := by
  by_cases h : y < x
  · exact D_ev (ev_lss_t (decide_eq_true h) ev_gtr) (h1 h)
  · exact D_ev (ev_lss_t (decide_eq_false h) ev_gtr) (h2 h)
theorem D_gec (h1 : y ≤ x → k (.bool true) w) (h2 : ¬ y ≤ x → k (.bool false) w) : D P (.bin .geq t (.int ik x) (.int ik y)) k w := by
  by_cases h : y ≤ x
  · exact D_ev (ev_lss_t (decide_eq_true h) ev_geq) (h1 h)
  · exact D_ev (ev_lss_t (decide_eq_false h) ev_geq) (h2 h)
theorem D_eqc (h1 : x = y → k (.bool true) w) (h2 : ¬ x = y → k (.bool false) w) : D P (.bin .eql t (.int ik x) (.int ik y)) k w := by
  by_cases h : x = y
  · exact D_ev (ev_lss_t (decide_eq_true h) ev_eql) (h1 h)
  · exact D_ev (ev_lss_t (decide_eq_false h) ev_eql) (h2 h)
theorem D_nec (h1 : ¬ x = y → k (.bool true) w) (h2 : x = y → k (.bool false) w) : D P (.bin .neq t (.int ik x) (.int ik y)) k w := by
  by_cases h : x = y
  · exact D_ev (ev_lss_t (decide_eq_false (by simpa using h)) ev_neq) (h2 h)
  · exact D_ev (ev_lss_t (decide_eq_true h) ev_neq) (h1 h)

theorem blk_lt {b : Nat} {c : List Value} (h : BlkL w b c) : b < w.heap.size := by
  obtain ⟨t, fr, h⟩ := h
  exact (Array.getElem?_eq_some_iff.1 h).1

theorem old_b {b : Nat} {c : List Value} (H : Cur (Below w0.heap.size w0) U w l) (h : BlkL w0 b c) : BlkL w b c := by
  obtain ⟨t, fr, h⟩ := h
  exact ⟨t, fr, by rw [H.j.block b (Array.getElem?_eq_some_iff.1 h).1]; exact h⟩
theorem st1_ev {o : VOp} (h : Ev P o w v) : St1 P (some o) v w := by
  unfold Ev at h; exact h
theorem stAll_iff {l : List (Option VOp × Value)} : StAll P l w ↔ l.foldr (fun p r => St1 P p.1 p.2 w ∧ r) True := by
  induction l with
  | nil => simp [StAll]
  | cons a l ih =>
    simp only [List.foldr_cons, ← ih]
    simp [StAll]
theorem stAll_nil : StAll P [] w := fun _ h => by cases h
theorem stAll_cons {o : VOp} {l : List (Option VOp × Value)} (h : Ev P o w v) (hl : StAll P l w) : StAll P ((some o, v) :: l) w := by
  intro p hp
  rcases List.mem_cons.1 hp with rfl | hp
  · exact st1_ev h
  · exact hl p hp
theorem and_st {l : List (Option VOp × Value)} {q : Prop} (h : StAll P l w) (hq : q) : StAll P l w ∧ q := ⟨h, hq⟩
theorem D_pureV (hJ : Jst J U) (H : Cur J U w l) {f : FuncId} {args : List Value} {v0 : Value} [hf : Fo P f]
    (hc : PureC P f args w fun v _ => v = v0) (hk : ∀ w', Cur J U w' l → k v0 w') : D P (.call (.func (.func f) #[] #[]) args) k w := by
  refine D_call hJ H (Q := fun v _ => v = v0) (by rw [Array.append_empty]; exact hc) fun v w' H' _ hv => ?_
  subst hv; exact hk w' H'
theorem D_pure (hJ : Jst J U) (H : Cur J U w l) {f : FuncId} {args : List Value} {Q : Value → World → Prop} [hf : Fo P f]
    (hc : PureC P f args w Q) (hk : ∀ v w', Cur J U w' l → Below w.heap.size w w' → Q v w' → k v w') : D P (.call (.func (.func f) #[] #[]) args) k w :=
  D_call hJ H (Q := Q) (by rw [Array.append_empty]; exact hc) hk
def toN : Value → Nat
  | .int _ x => x.toNat
  | _ => 0
theorem Lp_up {init : List Value} {B : (List Value → World → Prop) → List Value → World → Prop} (n : Nat) (X : Nat → List Value → World → Prop) (μ : List Value → Nat) (i0 : Nat) (hi : i0 ≤ n) (h0 : X i0 init w)
    (hs : ∀ i vs w, i ≤ n → X i vs w → B (fun vs' w' => (∃ i', i' ≤ n ∧ X i' vs' w') ∧ μ vs' < μ vs) vs w) : Lp init w B :=
  ⟨fun vs w => ∃ i, i ≤ n ∧ X i vs w, fun vs _ => μ vs, ⟨i0, hi, h0⟩, fun vs w ⟨i, hi, hx⟩ => hs i vs w hi hx⟩
end
end Go.Rv
