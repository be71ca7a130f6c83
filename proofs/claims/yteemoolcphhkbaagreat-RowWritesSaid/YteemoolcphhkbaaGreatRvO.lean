/- Part of the proof that YteemoolcphhkbaaGreat holds whatever the input: a text of contracts, laws and steps; no condition. -/
import Derived.Test.YteemoolcphhkbaaGreatRvN
set_option linter.all false
set_option autoImplicit false
namespace Go.Rv
open Go.RowKit
/-! ### A set of drives, as memory holds it -/
structure Geo where
  cols : Int
  chunk : Int
  rows : Int
abbrev Geo.v (G : Geo) : Value := .agg [.int .i64 G.cols, .int .i64 G.chunk, .int .i64 G.rows].toArray
def Geo.may (G : Geo) : Prop := 4 ≤ G.cols ∧ G.cols ≤ 10 ∧ 1 ≤ G.chunk ∧ G.chunk ≤ 4 ∧ 1 ≤ G.rows ∧ G.rows ≤ 256
instance (G : Geo) : Decidable G.may := by unfold Geo.may; infer_instance
def Geo.first (G : Geo) (r : Int) : Int := (2 * G.cols - r % G.cols) % G.cols
def Geo.col (G : Geo) (r i : Int) : Int := (G.first r + 1 + i) % G.cols
theorem Geo.first_b (G : Geo) (h : G.may) (r : Int) : 0 ≤ G.first r ∧ G.first r < G.cols := by
  unfold Geo.may at h
  exact ⟨Int.emod_nonneg _ (by omega), Int.emod_lt_of_pos _ (by omega)⟩
/-- The column of a role. -/
def Geo.colOf (G : Geo) (r i : Int) : Int := if i < G.cols - 2 then G.col r i else if i < G.cols - 1 then (G.first r + G.cols - 1) % G.cols else G.first r
def dptr : Option DP → Value
  | some p => .pointer (some ⟨p.b, 0, none⟩)
  | none => .pointer none
/-- A set: its geometry, its drives, up to where they are built; and where the two slices lie. -/
structure RS where
  G : Geo
  ds : List (Option DP)
  built : List Int
  dg : Nat
  doff : Nat
  dcap : Nat
  bg : Nat
  bcap : Nat
  dcur : List Value
  bcur : List Value
namespace RS
variable (S : RS)
abbrev v : Value := .agg [.int .i64 S.G.cols, .int .i64 S.G.chunk, .int .i64 S.G.rows, .slice (some ⟨S.dg, S.doff, none⟩) S.ds.length S.dcap, .slice (some ⟨S.bg, 0, none⟩) S.built.length S.bcap].toArray
/-- What the two slices hold. -/
structure fit (te : TypeId) : Prop where
  d : ∀ (j : Nat) (d : Option DP), S.ds[j]? = some d → S.dcur[S.doff + j]? = some (dptr d)
  b : ∀ (j : Nat) (x : Int), S.built[j]? = some x → S.bcur[j]? = some (Value.int .i64 x)
  good : ∀ p, some p ∈ S.ds → p.good te
  small : S.ds.length ≤ 1000 ∧ S.built.length ≤ 1000
/-- What of the world the set's readers need. -/
structure is (w : World) : Prop where
  d : BlkL w S.dg S.dcur
  b : BlkL w S.bg S.bcur
  r : ∀ p, some p ∈ S.ds → p.r.ok w
def fine : Prop := S.G.may ∧ (S.ds.length : Int) = S.G.cols ∧ (S.built.length : Int) = S.G.cols ∧ ∀ p, some p ∈ S.ds → 4 + S.G.rows * S.G.chunk ≤ p.D.n
end RS
section
variable {U : Nat → Prop} {w w0 : World} {l : List Rs}
theorem RS.old {S : RS} (H : Cur (Below w0.heap.size w0) U w l) (h : S.is w0) : S.is w :=
  ⟨old_b H h.d, old_b H h.b, fun p hp => old_r H (h.r p hp)⟩
theorem RS.below {S : RS} {w' : World} (H : Below w.heap.size w w') (h : S.is w) : S.is w' :=
  RS.old (Cur.nil H : Cur (Below w.heap.size w) (fun _ => True) w' []) h
end
noncomputable def RS.okB (S : RS) : Bool := @decide S.fine (Classical.propDecidable _)
theorem RS.okB_t {S : RS} (h : S.fine) : S.okB = true := by simp [RS.okB, h]
theorem RS.okB_f {S : RS} (h : ¬ S.fine) : S.okB = false := by simp [RS.okB, h]
theorem blk_below {w w' : World} {b : Nat} {c : List Value} (H : Below w.heap.size w w') (h : BlkL w b c) : BlkL w' b c := by
  obtain ⟨t, fr, h⟩ := h
  exact ⟨t, fr, by rw [H.block b (Array.getElem?_eq_some_iff.1 h).1]; exact h⟩
theorem ev_extL {P : Program} {w : World} {vs : List Value} {i : Nat} {v : Value} (h : vs[i]? = some v) : Ev P (.ext (.tuple vs.toArray) i) w v := ev_ext (by simpa using h)
theorem andS_in {P : Program} {l : List (Option VOp × Value)} {w : World} {q : Prop} (h : StAll P l w) (hq : q) : AndS P l w q := by
  cases l with
  | nil => exact hq
  | cons a l => exact ⟨h, hq⟩
end Go.Rv
