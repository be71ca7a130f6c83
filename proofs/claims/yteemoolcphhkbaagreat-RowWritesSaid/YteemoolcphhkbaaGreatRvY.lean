/- Part of the proof that YteemoolcphhkbaaGreat holds whatever the input: a text of contracts, laws and steps; no condition. -/
import Derived.Test.YteemoolcphhkbaaGreatRvX
set_option linter.all false
set_option autoImplicit false
namespace Go.Rv
open Go.RowKit
/-! ### What is kept of writes: by rank -/
namespace Drv
/-- How many sectors ahead of this one have writes. -/
def rank (D : Drv) (i : Int) : Nat := ((List.range i.toNat).filter fun (j : Nat) => !(D.wr (j : Int)).isEmpty).length
def keep (D : Drv) (cnt : Nat → Nat → Nat) (i : Int) : Nat := cnt (D.rank i) (D.wr i).length
def settledBy (D : Drv) (cnt : Nat → Nat → Nat) : Drv := D.settled (D.keep cnt)
def part (D : Drv) (cnt : Nat → Nat → Nat) (k : Nat) : List Sec := D.safe.mapIdx fun (i : Nat) x => if D.rank (i : Int) < k then (if D.keep cnt (i : Int) = 0 then x else ((D.wr (i : Int))[D.keep cnt (i : Int) - 1]?).getD x) else x
/-- The sectors that have writes, in order. -/
structure Keys (D : Drv) (ks : List Int) : Prop where
  lt : ks.Pairwise (· < ·)
  mem : ∀ i, i ∈ ks ↔ D.wr i ≠ []
/-- What a flush comes to, and what the power's going. -/
def fcode (D : Drv) : Int := if D.dead then 40 else if D.power = some 0 then 42 else 0
def flushed (D : Drv) : Drv := if D.dead = true ∨ D.power = some 0 then D else D.use.settledBy fun _ m => m
def crashed (D : Drv) (cnt : Nat → Nat → Nat) : Drv := ({ D with power := none } : Drv).settledBy cnt
def kept (keep : List UInt8) (k m : Nat) : Nat := if keep.length = 0 then 0 else (keep.getD (k % keep.length) 0).toNat % (m + 1)
theorem kept_le (keep : List UInt8) (k m : Nat) : kept keep k m ≤ m := by
  unfold kept
  split
  · omega
  · exact Nat.lt_succ_iff.1 (Nat.mod_lt _ (Nat.succ_pos m))
variable {D : Drv} {cnt : Nat → Nat → Nat} {ks : List Int}
theorem Keys.nodup (h : D.Keys ks) : ks.Nodup := h.lt.imp fun h => by intro e; omega
theorem Keys.range (hD : D.ok) (h : D.Keys ks) {i : Int} (hi : i ∈ ks) : 0 ≤ i ∧ i < D.n := by
  have h1 := (h.mem i).1 hi
  by_cases h2 : i < 0 ∨ (D.n : Int) ≤ i
  · exact absurd (hD.out i h2) h1
  · omega
theorem Keys.rank (hD : D.ok) (h : D.Keys ks) {k : Nat} {i : Int} (hk : ks[k]? = some i) : D.rank i = k := by
  obtain ⟨hlt, hget⟩ := List.getElem?_eq_some_iff.1 hk
  have hsplit : ks = ks.take k ++ i :: ks.drop (k + 1) := by
    rw [← hget, List.getElem_cons_drop, List.take_append_drop]
  have hp := h.lt
  rw [hsplit, List.pairwise_append, List.pairwise_cons] at hp
  obtain ⟨_, ⟨h2, _⟩, h3⟩ := hp
  have hmem : ∀ j, (j ∈ ks ∧ j < i) ↔ j ∈ ks.take k := by
    intro j
    constructor
    · rintro ⟨hj, hji⟩
      rw [hsplit] at hj
      simp only [List.mem_append, List.mem_cons] at hj
      rcases hj with hj | hj | hj
      · exact hj
      · omega
      · have := h2 j hj; omega
    · intro hj
      exact ⟨List.mem_of_mem_take hj, h3 j hj i (List.mem_cons_self ..)⟩
  have hi := h.range hD (List.mem_of_getElem? hk)
  let A : List Int := ((List.range i.toNat).filter fun (j : Nat) => !(D.wr (j : Int)).isEmpty).map fun j : Nat => (j : Int)
  have hA : ∀ j, j ∈ A ↔ j ∈ ks.take k := by
    intro j
    rw [← hmem j]
    simp only [A, List.mem_map, List.mem_filter, List.mem_range]
    constructor
    · rintro ⟨n, ⟨h1, h2⟩, rfl⟩
      refine ⟨(h.mem _).2 fun e => by rw [e] at h2; simp at h2, by omega⟩
    · rintro ⟨hj, hji⟩
      have := h.range hD hj
      refine ⟨j.toNat, ⟨by omega, ?_⟩, by omega⟩
      have e : ((j.toNat : Nat) : Int) = j := by omega
      rw [e]
      have := (h.mem j).1 hj
      cases hw : D.wr j with
      | nil => exact absurd hw this
      | cons a l => rfl
  have hAn : A.Nodup := by
    refine List.pairwise_map.2 (List.Pairwise.imp (fun h e => h (by omega)) (List.Pairwise.filter _ List.nodup_range))
  have e1 : A.length = (ks.take k).length := Nat.le_antisymm (nodup_len hAn fun x hx => (hA x).1 hx) (nodup_len (h.nodup.take ..) fun x hx => (hA x).2 hx)
  have e2 : A.length = D.rank i := by simp [A, Drv.rank]
  rw [← e2, e1, List.length_take]
  omega
theorem part_len (k : Nat) : (D.part cnt k).length = D.n := by simp [part, n]
theorem part_zero : D.part cnt 0 = D.safe := by
  apply List.ext_getElem?
  intro j
  simp only [part, List.getElem?_mapIdx, Nat.not_lt_zero, if_false]
  cases D.safe[j]? <;> rfl
theorem keep_le (hc : ∀ k m, cnt k m ≤ m) (i : Int) : D.keep cnt i ≤ (D.wr i).length := hc _ _
theorem keep_nil (hc : ∀ k m, cnt k m ≤ m) {i : Int} (h : D.wr i = []) : D.keep cnt i = 0 := by
  have := keep_le (D := D) hc i
  rw [h] at this
  simpa using this
theorem part_at (k : Nat) (i : Nat) : (D.part cnt k)[i]? = (D.safe[i]?).map fun x => if D.rank (i : Int) < k then (if D.keep cnt (i : Int) = 0 then x else ((D.wr (i : Int))[D.keep cnt (i : Int) - 1]?).getD x) else x := by
  unfold part
  rw [List.getElem?_mapIdx]
theorem part_same (hD : D.ok) (h : D.Keys ks) (hc : ∀ k m, cnt k m ≤ m) {k : Nat} {i : Int} (hk : ks[k]? = some i) {j : Nat} (hj : (j : Int) ≠ i) : (D.part cnt (k + 1))[j]? = (D.part cnt k)[j]? := by
  rw [part_at, part_at]
  congr 1
  funext x
  by_cases h1 : D.rank (j : Int) < k
  · rw [if_pos h1, if_pos (by omega)]
  · rw [if_neg h1]
    by_cases h2 : D.rank (j : Int) < k + 1
    · rw [if_pos h2]
      by_cases hw : D.wr (j : Int) = []
      · rw [if_pos (keep_nil hc hw)]
      · have hm := (h.mem _).2 hw
        obtain ⟨k', hk'⟩ := List.getElem?_of_mem hm
        have := h.rank hD hk'
        have e : k' = k := by omega
        rw [e] at hk'
        rw [hk] at hk'
        cases hk'
        exact absurd rfl hj
    · rw [if_neg h2]
theorem part_none (hD : D.ok) (h : D.Keys ks) (hc : ∀ k m, cnt k m ≤ m) {k : Nat} {i : Int} (hk : ks[k]? = some i) (h0 : cnt k (D.wr i).length = 0) : D.part cnt (k + 1) = D.part cnt k := by
  have hr := h.rank hD hk
  apply List.ext_getElem?
  intro j
  by_cases hj : (j : Int) = i
  · rw [part_at, part_at]
    congr 1
    funext x
    subst hj
    have : D.keep cnt (j : Int) = 0 := by unfold keep; rw [hr]; exact h0
    simp [this]
  · exact part_same hD h hc hk hj
theorem part_some (hD : D.ok) (h : D.Keys ks) (hc : ∀ k m, cnt k m ≤ m) {k : Nat} {i : Int} (hk : ks[k]? = some i) (h0 : cnt k (D.wr i).length ≠ 0) {x : Sec} (hx : (D.wr i)[cnt k (D.wr i).length - 1]? = some x) : D.part cnt (k + 1) = (D.part cnt k).set i.toNat x := by
  have hr := h.rank hD hk
  have hi := h.range hD (List.mem_of_getElem? hk)
  apply List.ext_getElem?
  intro j
  by_cases hj : (j : Int) = i
  · have hjl : j < D.safe.length := by have := hi.2; unfold n at this; omega
    have e : i.toNat = j := by omega
    rw [e, List.getElem?_set_self (by rw [part_len]; exact hjl), part_at, List.getElem?_eq_getElem hjl]
    have : D.keep cnt (j : Int) = cnt k (D.wr i).length := by unfold keep; rw [hj, hr]
    rw [Option.map_some, this, hj, hr, if_pos (Nat.lt_succ_self k), if_neg h0, hx]
    rfl
  · rw [List.getElem?_set_ne (by omega)]
    exact part_same hD h hc hk hj
theorem part_end (hD : D.ok) (h : D.Keys ks) (hc : ∀ k m, cnt k m ≤ m) : D.part cnt ks.length = (D.settledBy cnt).safe := by
  apply List.ext_getElem?
  intro j
  rw [part_at]
  unfold settledBy settled
  simp only
  rw [List.getElem?_mapIdx]
  congr 1
  funext x
  by_cases hw : D.wr (j : Int) = []
  · simp [keep_nil hc hw]
  · have hm := (h.mem _).2 hw
    obtain ⟨k', hk'⟩ := List.getElem?_of_mem hm
    have hr := h.rank hD hk'
    have := (List.getElem?_eq_some_iff.1 hk').1
    rw [if_pos (by omega)]
theorem settledBy_n : (D.settledBy cnt).n = D.n := by simp [settledBy, settled, n]
theorem settledBy_ok (hD : D.ok) : (D.settledBy cnt).ok := by
  refine ⟨by rw [settledBy_n]; exact hD.big, fun x hx => ?_, fun i x hx => (by cases hx), fun i _ => rfl⟩
  simp only [settledBy, settled, List.mem_mapIdx] at hx
  obtain ⟨i, hi, rfl⟩ := hx
  split
  · exact hD.safe _ (List.getElem_mem hi)
  · cases hg : (D.wr (i : Int))[D.keep cnt (i : Int) - 1]? with
    | none => exact hD.safe _ (List.getElem_mem hi)
    | some y => exact hD.wr _ y (List.mem_of_getElem? hg)
theorem part_ok (hD : D.ok) (k : Nat) : ∀ x ∈ D.part cnt k, x.length = 64 := by
  intro x hx
  simp only [part, List.mem_mapIdx] at hx
  obtain ⟨i, hi, rfl⟩ := hx
  split
  · split
    · exact hD.safe _ (List.getElem_mem hi)
    · cases hg : (D.wr (i : Int))[D.keep cnt (i : Int) - 1]? with
      | none => exact hD.safe _ (List.getElem_mem hi)
      | some y => exact hD.wr _ y (List.mem_of_getElem? hg)
  · exact hD.safe _ (List.getElem_mem hi)
end Drv
theorem flat_set {l : List Sec} (h : ∀ x ∈ l, x.length = 64) {x : Sec} (hx : x.length = 64) : ∀ {i : Nat}, i < l.length → (l.flatMap u8s).take (i * 64) ++ (u8s x ++ (l.flatMap u8s).drop (i * 64 + 64)) = (l.set i x).flatMap u8s := by
  induction l with
  | nil => intro i hi; simp at hi
  | cons a l ih =>
    intro i hi
    have ha : (u8s a).length = 64 := by rw [u8s_len, h a (List.mem_cons_self ..)]
    cases i with
    | zero =>
      simp only [Nat.zero_mul, List.take_zero, List.nil_append, List.set_cons_zero, List.flatMap_cons, Nat.zero_add]
      rw [← ha, List.drop_left]
    | succ i =>
      have e : (i + 1) * 64 = (u8s a).length + i * 64 := by rw [ha]; omega
      have e2 : (i + 1) * 64 + 64 = (u8s a).length + (i * 64 + 64) := by rw [ha]; omega
      rw [List.flatMap_cons, List.set_cons_succ, List.flatMap_cons, e2, e, ← ih (fun x hx => h x (List.mem_cons_of_mem _ hx)) (by simpa using hi), List.take_length_add_append, List.drop_length_add_append, List.append_assoc]
theorem sortI_keys {D : Drv} {s es : List Int} (hs : s.Perm es) (hn : es.Nodup) (hm : ∀ i, i ∈ es ↔ D.wr i ≠ []) : D.Keys (s.mergeSort fun x y => decide (x ≤ y)) := by
  have hp := (List.mergeSort_perm s fun x y => decide (x ≤ y)).trans hs
  refine ⟨?_, fun i => by rw [hp.mem_iff]; exact hm i⟩
  have h1 : (s.mergeSort fun x y => decide (x ≤ y)).Pairwise (fun x y => decide (x ≤ y) = true) := List.pairwise_mergeSort (fun a b c h1 h2 => by simp at *; omega) (fun a b => by simp; omega) s
  have h2 : (s.mergeSort fun x y => decide (x ≤ y)).Nodup := hp.nodup_iff.2 hn
  have := h1.and h2
  exact this.imp fun ⟨h1, h2⟩ => by simp at h1; omega
end Go.Rv
namespace Go.Rv
/-! ### The same done to all drives of a set, one by one -/
namespace AS
def mapTo (A : AS) (f : Drv → Drv) (c : Nat) : AS := { A with ds := A.ds.mapIdx fun i d => if i < c then d.map f else d }
def mapAll (A : AS) (f : Drv → Drv) : AS := { A with ds := A.ds.map (Option.map f) }
def isOff : Option Drv → Bool
  | some d => decide (d.fcode = 42)
  | none => false
def offTo (A : AS) (c : Nat) : Bool := (A.ds.take c).any isOff
noncomputable def flcode (A : AS) : Int := if ¬ A.fine then 1 else if A.ds.any isOff then 42 else 0
noncomputable def flush (A : AS) : AS := if A.fine then A.mapAll Drv.flushed else A
variable {A : AS} {f : Drv → Drv} {c : Nat}
theorem mapTo_zero : A.mapTo f 0 = A := by
  have : (A.ds.mapIdx fun i d => if i < 0 then d.map f else d) = A.ds := by
    apply List.ext_getElem?
    intro j
    simp only [List.getElem?_mapIdx, Nat.not_lt_zero, if_false]
    cases A.ds[j]? <;> rfl
  unfold mapTo
  rw [this]
theorem mapTo_all (h : A.ds.length ≤ c) : A.mapTo f c = A.mapAll f := by
  unfold mapTo mapAll
  congr 1
  apply List.ext_getElem?
  intro j
  simp only [List.getElem?_mapIdx, List.getElem?_map]
  cases hj : A.ds[j]? with
  | none => rfl
  | some d =>
    have := (List.getElem?_eq_some_iff.1 hj).1
    rw [Option.map_some, Option.map_some, if_pos (by omega)]
theorem mapTo_at (j : Nat) : (A.mapTo f c).ds[j]? = (A.ds[j]?).map fun d => if j < c then d.map f else d := by simp [mapTo]
theorem mapTo_here : (A.mapTo f c).ds[c]? = A.ds[c]? := by
  rw [mapTo_at]; simp
theorem mapTo_len : (A.mapTo f c).ds.length = A.ds.length := by simp [mapTo]
theorem mapTo_same {d : Option Drv} (hd : A.ds[c]? = some d) (h : d.map f = d) : A.mapTo f (c + 1) = A.mapTo f c := by
  unfold mapTo
  congr 1
  apply List.ext_getElem?
  intro j
  simp only [List.getElem?_mapIdx]
  by_cases hj : j = c
  · subst hj
    rw [hd, Option.map_some, Option.map_some, if_pos (by omega), if_neg (by omega), h]
  · congr 1
    funext x
    by_cases h1 : j < c
    · rw [if_pos h1, if_pos (by omega)]
    · rw [if_neg h1, if_neg (by omega)]
theorem mapTo_put {d : Drv} (hd : A.ds[c]? = some (some d)) : A.mapTo f (c + 1) = (A.mapTo f c).put c (some (f d)) := by
  unfold mapTo put
  congr 1
  apply List.ext_getElem?
  intro j
  by_cases hj : j = c
  · subst hj
    have hl := (List.getElem?_eq_some_iff.1 hd).1
    rw [List.getElem?_set_self (by simpa using hl), List.getElem?_mapIdx, hd, Option.map_some, if_pos (by omega), Option.map_some]
  · rw [List.getElem?_set_ne (by omega), List.getElem?_mapIdx, List.getElem?_mapIdx]
    congr 1
    funext x
    by_cases h1 : j < c
    · rw [if_pos h1, if_pos (by omega)]
    · rw [if_neg h1, if_neg (by omega)]
theorem offTo_succ {d : Option Drv} (hd : A.ds[c]? = some d) : A.offTo (c + 1) = (A.offTo c || isOff d) := by
  obtain ⟨hl, he⟩ := List.getElem?_eq_some_iff.1 hd
  unfold offTo
  rw [List.take_succ, List.any_append, hd]
  simp
theorem offTo_all (h : A.ds.length ≤ c) : A.offTo c = A.ds.any isOff := by
  unfold offTo; rw [List.take_of_length_le h]
theorem mapAll_fine (hf : A.fine) (hn : ∀ d, (f d).n = d.n) : (A.mapAll f).fine := by
  refine ⟨hf.1, by simpa [mapAll] using hf.2.1, hf.2.2.1, fun d hd => ?_⟩
  simp only [mapAll, List.mem_map] at hd
  obtain ⟨e, he, h⟩ := hd
  cases e with
  | none => cases h
  | some e => cases h; rw [hn]; exact hf.2.2.2 e he
end AS
theorem Drv.flushed_n (d : Drv) : d.flushed.n = d.n := by
  unfold Drv.flushed
  split
  · rfl
  · rw [Drv.settledBy_n]; rfl
theorem Drv.crashed_n (d : Drv) (cnt : Nat → Nat → Nat) : (d.crashed cnt).n = d.n := by unfold Drv.crashed; rw [Drv.settledBy_n]; rfl
theorem Drv.flushed_dead {d : Drv} (h : d.dead = true) : d.flushed = d := by unfold Drv.flushed; rw [if_pos (.inl h)]
end Go.Rv
