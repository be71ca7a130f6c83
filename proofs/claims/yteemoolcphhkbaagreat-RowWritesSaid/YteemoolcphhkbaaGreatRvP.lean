/- Part of the proof that YteemoolcphhkbaaGreat holds whatever the input: a text of contracts, laws and steps; no condition. -/
import Derived.Test.YteemoolcphhkbaaGreatRvO
set_option linter.all false
set_option autoImplicit false
namespace Go.Rv
open Go.RowKit
def Rs.no : Rs where
  foot _ := False
  ok _ := True
  lt _ _ h := h.elim
  keep _ _ _ := trivial
def DP.ro : Option DP → Rs
  | some p => p.r
  | none => .no
def RS.rs (S : RS) (dt bt : TypeId) : List Rs := .b S.dg (.cells S.dcur.toArray dt) :: .b S.bg (.cells S.bcur.toArray bt) :: S.ds.map DP.ro
section
variable {J : World → Prop} {U : Nat → Prop} {w w0 : World} {l : List Rs}
theorem RS.is_of {S : RS} {dt bt : TypeId} (H : Cur J U w (S.rs dt bt ++ l)) : S.is w := by
  refine ⟨own_l H (i := 0) rfl, own_l H (i := 1) rfl, fun p hp => ?_⟩
  refine H.ok p.r (List.mem_append.2 (.inl ?_))
  unfold RS.rs
  exact List.mem_cons_of_mem _ (List.mem_cons_of_mem _ (List.mem_map.2 ⟨some p, hp, rfl⟩))
theorem RS.rs_at {S : RS} {dt bt : TypeId} {c : Nat} {p : DP} (hd : S.ds[c]? = some (some p)) : (S.rs dt bt ++ l)[2 + c]? = some p.r := by
  have hc : c < S.ds.length := (List.getElem?_eq_some_iff.1 hd).1
  unfold RS.rs
  rw [List.getElem?_append_left (by simp; omega), Nat.add_comm, List.getElem?_cons_succ, List.getElem?_cons_succ, List.getElem?_map, hd]
  rfl
/-- A set with another drive in a column's place. -/
def RS.put (S : RS) (c : Nat) (p' : DP) : RS := { S with ds := S.ds.set c (some p') }
theorem RS.rs_put {S : RS} {dt bt : TypeId} {c : Nat} {p p' : DP} (hd : S.ds[c]? = some (some p)) : (S.rs dt bt ++ l).set (2 + c) p'.r = (S.put c p').rs dt bt ++ l := by
  have hc : c < S.ds.length := (List.getElem?_eq_some_iff.1 hd).1
  unfold RS.rs RS.put
  rw [List.set_append_left _ _ (by simp; omega), Nat.add_comm, List.set_cons_succ, List.set_cons_succ, List.map_set]
  rfl
theorem RS.put_fit {S : RS} {te : TypeId} {c : Nat} {p p' : DP} (hf : S.fit te) (hd : S.ds[c]? = some (some p)) (hb : p'.b = p.b) (hg : p'.good te) : (S.put c p').fit te := by
  refine ⟨fun j d hj => ?_, hf.b, fun q hq => ?_, by simpa [RS.put] using hf.small⟩
  · simp only [RS.put] at hj ⊢
    rw [List.getElem?_set] at hj
    split at hj
    · rename_i e
      subst e
      split at hj
      · cases hj
        rw [hf.d c _ hd]
        simp [dptr, hb]
      · cases hj
    · exact hf.d j d hj
  · simp only [RS.put] at hq
    rcases List.mem_or_eq_of_mem_set hq with h | h
    · exact hf.good q h
    · cases h; exact hg
theorem RS.is_all {S : RS} {dt bt : TypeId} (h : (Rs.all (S.rs dt bt)).ok w) : S.is w := by
  rw [all_ok] at h
  have h := h.1
  refine ⟨⟨dt, (0, 0), ?_⟩, ⟨bt, (0, 0), ?_⟩, fun p hp => ?_⟩
  · have := h (.b S.dg (.cells S.dcur.toArray dt)) (by simp [RS.rs])
    rwa [b_ok] at this
  · have := h (.b S.bg (.cells S.bcur.toArray bt)) (by simp [RS.rs])
    rwa [b_ok] at this
  · refine h p.r ?_
    unfold RS.rs
    exact List.mem_cons_of_mem _ (List.mem_cons_of_mem _ (List.mem_map.2 ⟨some p, hp, rfl⟩))
theorem TurnsC.mono {P : Program} {f : FuncId} {args cap : List Value} {ls : List Rs} {Q Q' : Value → List Rs → Prop} (h : TurnsC P f args cap w ls Q) (hq : ∀ v ls', Q v ls' → Q' v ls') : TurnsC P f args cap w ls Q' := by
  intro J U hJ H
  refine Calls.mono (h J U hJ H) fun e w' h => ?_
  cases e with
  | returned v => obtain ⟨ls', h1, h2⟩ := h; exact ⟨ls', hq _ _ h1, h2⟩
  | panicked c => exact h.elim
  | outgrown => exact h.elim
end
end Go.Rv
