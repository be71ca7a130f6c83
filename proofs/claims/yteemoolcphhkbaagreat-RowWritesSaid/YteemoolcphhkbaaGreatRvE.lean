/- Part of the proof that YteemoolcphhkbaaGreat holds whatever the input: a text of contracts, laws and steps; no condition. -/
import Derived.Test.YteemoolcphhkbaaGreatRvD
set_option linter.all false
set_option autoImplicit false
namespace Go.Rv
def scB : Option TypeDesc → Bool
  | some (.struct _) | some (.array _ _) | none => false
  | _ => true
def agB : Option TypeDesc → Bool
  | some (.struct _) | some (.array _ _) => true
  | _ => false
def szI (i : Option TypeInfo) (n : Nat) : Bool := match i with | some i => Nat.beq i.size n | none => false
def byI (i : Option TypeInfo) (n : Nat) : Bool := match i with | some i => Nat.beq i.bytes n | none => false
def faB (P : Program) (d : Option TypeDesc) (i off : Nat) : Bool :=
  match d with
  | some (.struct fs) => match fs.toList[i]? with
    | some f => Nat.beq f.offset off && (match P.info? f.type with | some j => !Nat.beq j.size 0 | none => false)
    | none => false
  | _ => false
def ftB (d : Option TypeDesc) (i off ft : Nat) : Bool :=
  match d with
  | some (.struct fs) => match fs.toList[i]? with
    | some f => Nat.beq f.offset off && Nat.beq f.type ft
    | none => false
  | _ => false
def slB (d : Option TypeDesc) (e : Nat) : Bool := match d with | some (.slice e') => Nat.beq e' e | _ => false
def strB (d : Option TypeDesc) : Bool := match d with | some .string => true | _ => false
def kB : IntKind → IntKind → Bool
  | .i8, .i8 | .i16, .i16 | .i32, .i32 | .i64, .i64 | .u8, .u8 | .u16, .u16 | .u32, .u32 | .u64, .u64 => true
  | _, _ => false
def itB (d : Option TypeDesc) (k : IntKind) : Bool := match d with | some (.int k') => kB k' k | _ => false
def foB (f : Option Func) : Bool := match f with | some f => (match f.body with | some _ => true | none => false) && f.name != "runtime.NumGoroutine" | none => false
section
variable {P : Program} {t : TypeId}
theorem sc_of (h : scB (P.underlying t) = true) : Sc P t := by
  cases hd : P.underlying t with
  | none => rw [hd] at h; cases h
  | some d => exact ⟨d, hd, by rw [hd] at h; cases d <;> first | trivial | cases h⟩
theorem sz_of {i : Option TypeInfo} {n : Nat} (h : szI i n = true) : ∃ j, i = some j ∧ j.size = n := by
  cases i with
  | none => cases h
  | some j => exact ⟨j, rfl, Nat.eq_of_beq_eq_true h⟩
theorem ag_of {n : Nat} (h : agB (P.underlying t) = true) (hn : szI (P.info? t) n = true) : Ag P t n := by
  obtain ⟨j, h1, h2⟩ := sz_of hn
  cases hd : P.underlying t with
  | none => rw [hd] at h; cases h
  | some d => exact ⟨⟨d, hd, by rw [hd] at h; cases d <;> first | trivial | cases h⟩, j, h1, h2⟩
theorem sz1_of {n : Nat} (hn : szI (P.info? t) n = true) : Sz1 P t n := ⟨sz_of hn⟩
theorem fa_of {i off : Nat} (h : faB P (P.underlying t) i off = true) : Fa P t i off := by
  unfold faB at h
  split at h
  · rename_i fs hd
    split at h
    · rename_i f hf
      rw [Bool.and_eq_true] at h
      cases hj : P.info? f.type with
      | none => rw [hj] at h; simp at h
      | some j =>
        rw [hj] at h
        refine ⟨fs, f, j, hd, by rw [← Array.getElem?_toList]; exact hf, Nat.eq_of_beq_eq_true h.1, hj, fun h0 => ?_⟩
        have h2 := h.2
        simp only [h0] at h2
        exact absurd h2 (by decide)
    · cases h
  · cases h
theorem ft_of {i off ft : Nat} (h : ftB (P.underlying t) i off ft = true) : Ft P t i off ft := by
  unfold ftB at h
  split at h
  · rename_i fs hd
    split at h
    · rename_i f hf
      rw [Bool.and_eq_true] at h
      exact ⟨fs, f, hd, by rw [← Array.getElem?_toList]; exact hf, Nat.eq_of_beq_eq_true h.1, Nat.eq_of_beq_eq_true h.2⟩
    · cases h
  · cases h
theorem str_of_ty (h : strB (P.underlying t) = true) : Str P t := by
  unfold strB at h
  split at h
  · rename_i hd; exact ⟨hd⟩
  · cases h
theorem it_of {k : IntKind} (h : itB (P.underlying t) k = true) : It P t k := by
  unfold itB at h
  split at h
  · rename_i k' hd
    refine ⟨?_⟩
    rw [hd]
    cases k <;> cases k' <;> first | rfl | cases h
  · cases h
theorem zr_of {z : Value} (h : (P.info? t).bind (·.zero) = some z) : Zr P t z := by
  cases hi : P.info? t with
  | none => rw [hi] at h; cases h
  | some i => rw [hi] at h; exact ⟨i, hi, h⟩
theorem sl_of {e n y : Nat} {z : Value} (h : slB (P.underlying t) e = true) (hn : szI (P.info? e) n = true) (hy : byI (P.info? e) y = true) (hz : (P.info? e).bind (·.zero) = some z) (hc : Nat.beq z.cells.size n = true) : Sl P t e n y z := by
  obtain ⟨j, h1, h2⟩ := sz_of hn
  unfold slB at h
  split at h
  · rename_i e' hd
    rw [h1] at hy hz
    have := Nat.eq_of_beq_eq_true h
    subst this
    exact ⟨hd, j, h1, h2, Nat.eq_of_beq_eq_true hy, hz, Nat.eq_of_beq_eq_true hc⟩
  · cases h
theorem fo_of {f : FuncId} (h : foB P.funcs[f]? = true) : Fo P f := by
  unfold foB at h
  split at h
  · rename_i fn hf
    rw [Bool.and_eq_true] at h
    refine ⟨fn, hf, ?_, ?_⟩
    · cases hb : fn.body with
      | none => rw [hb] at h; simp at h
      | some c => rfl
    · have := h.2
      simpa using this
  · cases h
end
end Go.Rv
