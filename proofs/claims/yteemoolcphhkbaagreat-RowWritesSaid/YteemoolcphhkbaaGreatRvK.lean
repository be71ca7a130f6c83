/- Part of the proof that YteemoolcphhkbaaGreat holds whatever the input: a text of contracts, laws and steps; no condition. -/
import Derived.Test.YteemoolcphhkbaaGreatRvJ
set_option linter.all false
set_option autoImplicit false
namespace Go.Rv
open Go.RowKit
/-! ### Resources of several parts; calls that turn resources -/
def Rs.all (ps : List Rs) : Rs where
  foot k := ∃ r ∈ ps, r.foot k
  ok w := (∀ r ∈ ps, r.ok w) ∧ ps.Pairwise Ap2
  lt h k hk := by obtain ⟨r, hr, hf⟩ := hk; exact r.lt (h.1 r hr) k hf
  keep h hs hk := ⟨fun r hr => r.keep (h.1 r hr) hs fun k hlt hf => hk k hlt ⟨r, hr, hf⟩, h.2⟩
theorem all_foot {ps : List Rs} {k : Nat} : (Rs.all ps).foot k = ∃ r ∈ ps, r.foot k := rfl
theorem all_ok {ps : List Rs} {w : World} : (Rs.all ps).ok w = ((∀ r ∈ ps, r.ok w) ∧ ps.Pairwise Ap2) := rfl
attribute [irreducible] Rs.all
section
variable {P : Program} {J : World → Prop} {U : Nat → Prop} {w : World} {l : List Rs} {k : KV}
theorem Cur.perm (H : Cur J U w l) {l' : List Rs} (h : l.Perm l') : Cur J U w l' :=
  ⟨H.j, fun r hr => H.ok r (h.mem_iff.2 hr), fun r hr => H.own r (h.mem_iff.2 hr), (h.pairwise_iff (fun h => ap_sym h)).1 H.ap⟩
theorem Cur.open {ps : List Rs} (H : Cur J U w (Rs.all ps :: l)) : Cur J U w (ps ++ l) := by
  have h := H.ok _ (List.mem_cons_self ..)
  rw [all_ok] at h
  have hp := List.pairwise_cons.1 H.ap
  refine ⟨H.j, fun r hr => ?_, fun r hr b hb => ?_, List.pairwise_append.2 ⟨h.2, hp.2, fun r hr s hs b hb => hp.1 s hs b (by rw [all_foot]; exact ⟨r, hr, hb⟩)⟩⟩
  · rcases List.mem_append.1 hr with h' | h'
    · exact h.1 r h'
    · exact H.ok r (List.mem_cons_of_mem _ h')
  · rcases List.mem_append.1 hr with h' | h'
    · exact H.own _ (List.mem_cons_self ..) b (by rw [all_foot]; exact ⟨r, h', hb⟩)
    · exact H.own r (List.mem_cons_of_mem _ h') b hb
theorem Cur.close {ps : List Rs} (H : Cur J U w (ps ++ l)) : Cur J U w (Rs.all ps :: l) := by
  have hp := List.pairwise_append.1 H.ap
  refine ⟨H.j, fun r hr => ?_, fun r hr b hb => ?_, List.pairwise_cons.2 ⟨fun s hs b hb hb' => ?_, hp.2.1⟩⟩
  · rcases List.mem_cons.1 hr with rfl | h'
    · rw [all_ok]; exact ⟨fun r hr => H.ok r (List.mem_append.2 (.inl hr)), hp.1⟩
    · exact H.ok r (List.mem_append.2 (.inr h'))
  · rcases List.mem_cons.1 hr with rfl | h'
    · rw [all_foot] at hb
      obtain ⟨r, hr, hb⟩ := hb
      exact H.own r (List.mem_append.2 (.inl hr)) b hb
    · exact H.own r (List.mem_append.2 (.inr h')) b hb
  · rw [all_foot] at hb
    obtain ⟨r, hr, hb⟩ := hb
    exact hp.2.2 r hr s hs b hb hb'

/-- What a call comes to that turns the resources ls. -/
def TurnsC (P : Program) (f : FuncId) (args : List Value) (cap : List Value) (w : World) (ls : List Rs) (Q : Value → List Rs → Prop) : Prop :=
  ∀ J U, Jst J U → Cur J U w ls → Calls P f (args.toArray ++ cap.toArray) w (Ret fun v w' => ∃ ls', Q v ls' ∧ Cur J U w' ls')
theorem D_turns (hJ : Jst J U) {ls l' : List Rs} (H : Cur J U w (ls ++ l')) {f : FuncId} {args cap : List Value} {Q : Value → List Rs → Prop} [hf : Fo P f]
    (hc : TurnsC P f args cap w ls Q) (hk : ∀ v w' ls', Q v ls' → Cur J U w' (ls' ++ l') → k v w') : D P (.call (.func (.func f) #[] cap.toArray) args) k w := by
  obtain ⟨J', U', hJ', H', hback⟩ := H.aside hJ
  refine D_calls (Calls.mono (hc J' U' hJ' H') fun e w' h => ?_)
  cases e with
  | returned v => obtain ⟨ls', hq, h'⟩ := h; exact hk v w' ls' hq (hback w' ls' h')
  | panicked c => exact h.elim
  | outgrown => exact h.elim
theorem perm_at {r : Rs} : ∀ {l : List Rs} {i : Nat}, l[i]? = some r → l.Perm (r :: l.eraseIdx i)
  | [], _, h => by simp at h
  | a :: l, 0, h => by
    simp only [List.getElem?_cons_zero, Option.some.injEq] at h
    subst h; exact List.Perm.refl _
  | a :: l, i + 1, h => by
    simp only [List.getElem?_cons_succ] at h
    simp only [List.eraseIdx_cons_succ]
    exact ((perm_at h).cons a).trans (List.Perm.swap r a _)
theorem perm_set {r r' : Rs} : ∀ {l : List Rs} {i : Nat}, l[i]? = some r → (r' :: l.eraseIdx i).Perm (l.set i r')
  | [], _, h => by simp at h
  | a :: l, 0, h => List.Perm.refl _
  | a :: l, i + 1, h => by
    simp only [List.getElem?_cons_succ] at h
    simp only [List.eraseIdx_cons_succ, List.set_cons_succ]
    exact (List.Perm.swap a r' _).trans ((perm_set h).cons a)
/-- The same of one resource, wherever it is in the list. -/
theorem D_turn1 (hJ : Jst J U) (H : Cur J U w l) (i : Nat) {r : Rs} (hi : l[i]? = some r) {f : FuncId} {args cap : List Value} {Q : Value → Rs → Prop} [hf : Fo P f]
    (hc : TurnsC P f args cap w [r] fun v ls => ∃ r', ls = [r'] ∧ Q v r') (hk : ∀ v w' r', Q v r' → Cur J U w' (l.set i r') → k v w') : D P (.call (.func (.func f) #[] cap.toArray) args) k w := by
  refine D_turns hJ (ls := [r]) (l' := l.eraseIdx i) (H.perm (perm_at hi)) hc fun v w' ls' ⟨r', e, hq⟩ H' => ?_
  subst e
  exact hk v w' r' hq (H'.perm (perm_set hi))

/-- A contract of a function that only makes memory, where the callee's own parts are resources of the caller's. -/
theorem pure_turns {f : FuncId} {args : List Value} {ls : List Rs} {Q : Value → World → Prop} (hc : PureC P f args w Q) :
    TurnsC P f args [] w ls fun v ls' => ls' = ls ∧ ∃ w', Q v w' := by
  intro J U hJ H
  refine Calls.mono (by rw [show ([] : List Value).toArray = #[] from rfl, Array.append_empty]; exact hc) fun e w' h => ?_
  cases e with
  | returned v => exact ⟨ls, ⟨rfl, w', h.2⟩, H.step hJ (grown_of_below h.1)⟩
  | panicked c => exact h.elim
  | outgrown => exact h.elim
/-- What the resource says stays while only memory is made. -/
theorem old_r {w0 : World} {r : Rs} (H : Cur (Below w0.heap.size w0) U w l) (h : r.ok w0) : r.ok w :=
  r.keep h H.j.size fun k hk _ => H.j.block k hk
end
end Go.Rv
