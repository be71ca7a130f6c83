/- Part of the proof that YteemoolcphhkbaaGreat holds whatever the input: a text of contracts, laws and steps; no condition. -/
import Derived.Test.YteemoolcphhkbaaGreatRvM
set_option linter.all false
set_option autoImplicit false
namespace Go.Rv
open Go.RowKit
theorem made_const {z : Array Value} {v : Value} {k m : Nat} (hm : 0 < m) (h : z = (List.replicate m v).toArray) : madeCells z k = (List.replicate k v).toArray := by
  subst h
  apply Array.ext
  · simp [madeCells]
  · intro i h1 h2
    have h3 : i % m < m := Nat.mod_lt _ hm
    simp [madeCells, h3]
theorem flat_blank : ∀ n : Nat, (List.replicate n Go.Rv.blank).flatMap u8s = List.replicate (n * 64) (Value.int .u8 0)
  | 0 => rfl
  | n + 1 => by
    rw [List.replicate_succ, List.flatMap_cons, flat_blank n, show (n + 1) * 64 = 64 + n * 64 by omega, ← List.replicate_append_replicate]
    rfl
theorem made_blank {z : Value} {n : Nat} (h : z.cells = (List.replicate 64 (Value.int .u8 0)).toArray) : madeCells z.cells (n * 64) = ((List.replicate n Go.Rv.blank).flatMap u8s).toArray := by
  rw [made_const (by omega) h, flat_blank]
def DP.new (b bs bw bp : Nat) (ty ts te : TypeId) (n : Nat) : DP := ⟨b, bs, bw, bp, ty, ts, [], 0, [], 0, 0, te, Drv.fresh n⟩
theorem DP.new_good {b bs bw bp : Nat} {ty ts te : TypeId} {n : Nat} (hn : n ≤ 4096) : (DP.new b bs bw bp ty ts te n).good te := by
  refine ⟨⟨by simp [DP.new, Drv.fresh, Drv.n]; exact hn, fun x hx => ?_, fun i x hx => (by cases hx), fun i _ => rfl⟩, rfl, mapI_nil _, mapI_nil _, fun x _ => rfl, (fun x v hv => by cases hv), fun x => rfl, by simp [DP.new], fun k hk => by cases hk⟩
  have := List.eq_of_mem_replicate hx
  rw [this]; rfl
end Go.Rv
