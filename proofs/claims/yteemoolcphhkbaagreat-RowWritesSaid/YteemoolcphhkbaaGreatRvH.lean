/- Part of the proof that YteemoolcphhkbaaGreat holds whatever the input: a text of contracts, laws and steps; no condition. -/
import Derived.Test.YteemoolcphhkbaaGreatRvG
import Derived.Laws.StructEq
import Derived.Laws.Pointers
set_option linter.all false
set_option autoImplicit false
namespace Go.Rv
open Go.RowKit
section
variable {P : Program} {w : World} {v : Value}
/-! Pointers against nil; structs of three numbers -/
class Ptr (P : Program) (t : TypeId) : Prop where
  out : P.underlying t = some (.pointer (P.pointee t))
def ptrB (d : Option TypeDesc) : Bool := match d with | some (.pointer _) => true | _ => false
theorem ptr_of {t : TypeId} (h : ptrB (P.underlying t) = true) : Ptr P t := by
  unfold ptrB at h
  split at h
  · rename_i e hd
    refine ⟨?_⟩
    rw [Program.pointee, hd]
  · cases h
theorem ev_peq_s {t : TypeId} {a : Addr} [h : Ptr P t] : Ev P (.bin .eql t (.pointer (some a)) (.pointer none)) w (.bool false) := by
  unfold Ev
  simp [VOp.sem, eqGuard, Sem.run_bind, run_eql_pointer_nil w t _ h.out]
theorem ev_peq_n {t : TypeId} [h : Ptr P t] : Ev P (.bin .eql t (.pointer none) (.pointer none)) w (.bool true) := by
  unfold Ev
  simp [VOp.sem, eqGuard, Sem.run_bind, run_eql_pointer_nil w t _ h.out]
theorem ev_pne_s {t : TypeId} {a : Addr} [h : Ptr P t] : Ev P (.bin .neq t (.pointer (some a)) (.pointer none)) w (.bool true) := by
  unfold Ev
  simp [VOp.sem, eqGuard, Sem.run_bind, run_neq_pointer_nil w t _ h.out]
theorem ev_pne_n {t : TypeId} [h : Ptr P t] : Ev P (.bin .neq t (.pointer none) (.pointer none)) w (.bool false) := by
  unfold Ev
  simp [VOp.sem, eqGuard, Sem.run_bind, run_neq_pointer_nil w t _ h.out]

class E3 (P : Program) (t : TypeId) : Prop where
  out : P.underlying t = some (.struct (P.fieldsOf t)) ∧ P.stoodInHeld t = false ∧ P.eqGuardType P.depth t = false ∧
    ∃ f g h : Field, (P.fieldsOf t).toList = [f, g, h] ∧ (f.name ≠ "_" ∧ g.name ≠ "_" ∧ h.name ≠ "_") ∧ (f.offset = 0 ∧ g.offset = 1 ∧ h.offset = 2) ∧
      (P.underlying f.type = some (.int .i64) ∧ P.underlying g.type = some (.int .i64) ∧ P.underlying h.type = some (.int .i64))
def i64B (d : Option TypeDesc) : Bool := match d with | some (.int .i64) => true | _ => false
def e3B (P : Program) (t : TypeId) : Bool :=
  (match P.underlying t with | some (.struct _) => true | _ => false) && !P.stoodInHeld t && !P.eqGuardType P.depth t &&
  (match (P.fieldsOf t).toList with
   | [f, g, h] => f.name != "_" && g.name != "_" && h.name != "_" && Nat.beq f.offset 0 && Nat.beq g.offset 1 && Nat.beq h.offset 2 && i64B (P.underlying f.type) && i64B (P.underlying g.type) && i64B (P.underlying h.type)
   | _ => false)
theorem i64_of {d : Option TypeDesc} (h : i64B d = true) : d = some (.int .i64) := by
  unfold i64B at h
  split at h
  · rfl
  · cases h
theorem e3_of {t : TypeId} (h : e3B P t = true) : E3 P t := by
  unfold e3B at h
  simp only [Bool.and_eq_true, Bool.not_eq_true'] at h
  obtain ⟨⟨⟨h1, h2⟩, h3⟩, h4⟩ := h
  refine ⟨?_, h2, h3, ?_⟩
  · split at h1
    · rename_i fs hd
      rw [hd, Program.fieldsOf, hd]
    · cases h1
  · split at h4
    · rename_i f g h hl
      simp only [Bool.and_eq_true, bne_iff_ne] at h4
      obtain ⟨⟨⟨⟨⟨⟨⟨⟨a1, a2⟩, a3⟩, a4⟩, a5⟩, a6⟩, a7⟩, a8⟩, a9⟩ := h4
      exact ⟨f, g, h, hl, ⟨a1, a2, a3⟩, ⟨Nat.eq_of_beq_eq_true a4, Nat.eq_of_beq_eq_true a5, Nat.eq_of_beq_eq_true a6⟩, ⟨i64_of a7, i64_of a8, i64_of a9⟩⟩
    · cases h4
theorem ev_eq3 {t : TypeId} {a b c a' b' c' : Int} [e : E3 P t] :
    Ev P (.bin .eql t (.agg [.int .i64 a, .int .i64 b, .int .i64 c].toArray) (.agg [.int .i64 a', .int .i64 b', .int .i64 c'].toArray)) w (.bool (decide (a = a' ∧ b = b' ∧ c = c'))) := by
  obtain ⟨h1, h2, h3, f, g, h, h4, ⟨n1, n2, n3⟩, ⟨o1, o2, o3⟩, ⟨u1, u2, u3⟩⟩ := e.out
  have p1 : ∀ (ft : TypeId) (hu : P.underlying ft = some (.int .i64)) (xs : Array Value) (o : Nat) (x : Value) (hx : xs[o]? = some x), (part ft xs o).run P w = .ok x w := by
    intro ft hu xs o x hx
    have : (isAgg ft).run P w = .ok false w := by unfold isAgg; rw [Sem.run_bind, run_underlying hu]; rfl
    simp [part, Sem.run_bind, this, hx]
  have he : (Op.equalIn 10000 t (.agg [.int .i64 a, .int .i64 b, .int .i64 c].toArray) (.agg [.int .i64 a', .int .i64 b', .int .i64 c'].toArray)).run P w = .ok (decide (a = a' ∧ b = b' ∧ c = c')) w := by
    rw [run_equalIn_struct w 9999 t _ _ h1 h2, h4]
    simp only [Op.eqFields, n1, n2, n3, ne_eq, not_false_eq_true, if_true, o1, o2, o3]
    rw [Sem.run_bind, p1 f.type u1 _ 0 (.int .i64 a) rfl]
    simp only [Result.andThen]
    rw [Sem.run_bind, p1 f.type u1 _ 0 (.int .i64 a') rfl]
    simp only [Result.andThen]
    rw [Sem.run_bind, run_equalIn_int w 9998 f.type .i64 .i64 a a' u1]
    simp only [Result.andThen]
    by_cases e1 : a = a'
    · subst e1
      simp only [beq_self_eq_true, Bool.not_true, Bool.false_eq_true, if_false]
      rw [Sem.run_bind, p1 g.type u2 _ 1 (.int .i64 b) rfl]
      simp only [Result.andThen]
      rw [Sem.run_bind, p1 g.type u2 _ 1 (.int .i64 b') rfl]
      simp only [Result.andThen]
      rw [Sem.run_bind, run_equalIn_int w 9998 g.type .i64 .i64 b b' u2]
      simp only [Result.andThen]
      by_cases e2 : b = b'
      · subst e2
        simp only [beq_self_eq_true, Bool.not_true, Bool.false_eq_true, if_false]
        rw [Sem.run_bind, p1 h.type u3 _ 2 (.int .i64 c) rfl]
        simp only [Result.andThen]
        rw [Sem.run_bind, p1 h.type u3 _ 2 (.int .i64 c') rfl]
        simp only [Result.andThen]
        rw [Sem.run_bind, run_equalIn_int w 9998 h.type .i64 .i64 c c' u3]
        simp only [Result.andThen]
        by_cases e3 : c = c'
        · subst e3
          simp
        · have : (c == c') = false := by simpa using e3
          simp [this, e3]
      · have : (b == b') = false := by simpa using e2
        simp [this, e2]
    · have : (a == a') = false := by simpa using e1
      simp [this, e1]
  unfold Ev
  simp only [VOp.sem]
  rw [Sem.run_bind, Sem.run_bind, run_eqGuard_agg (hm := h3)]
  simp only [Result.andThen]
  rw [run_eql_struct, he]
  rfl
end
end Go.Rv
