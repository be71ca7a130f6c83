/- Part of the proof that YteemoolcphhkbaaGreat holds whatever the input: a text of contracts, laws and steps; no condition. -/
import Derived.Test.YteemoolcphhkbaaGreatRvY
set_option linter.all false
set_option autoImplicit false
namespace Go.Rv
open Go.RowKit
/-! ### Sets whose power goes -/
theorem Geo.colOf_eq (G : Geo) (h : G.may) (r : Int) {i : Int} (hi : 0 ≤ i ∧ i < G.cols) : G.colOf r i = (G.first r + 1 + i) % G.cols := by
  have hb := G.first_b h r
  have h' := h
  unfold Geo.may at h'
  unfold Geo.colOf Geo.col
  split
  · rfl
  · split
    · have e : i = G.cols - 2 := by omega
      subst e; congr 1; omega
    · have e : i = G.cols - 1 := by omega
      subst e
      rw [show G.first r + 1 + (G.cols - 1) = G.first r + G.cols by omega, Int.add_emod_right, Int.emod_eq_of_lt hb.1 hb.2]
theorem Geo.colOf_inj (G : Geo) (h : G.may) (r : Int) {i j : Int} (hi : 0 ≤ i ∧ i < G.cols) (hj : 0 ≤ j ∧ j < G.cols) (he : G.colOf r i = G.colOf r j) : i = j := by
  rw [G.colOf_eq h r hi, G.colOf_eq h r hj] at he
  have h' := h
  unfold Geo.may at h'
  generalize G.first r = f at he
  have hc : G.cols = 4 ∨ G.cols = 5 ∨ G.cols = 6 ∨ G.cols = 7 ∨ G.cols = 8 ∨ G.cols = 9 ∨ G.cols = 10 := by omega
  rcases hc with e | e | e | e | e | e | e <;> rw [e] at he hi hj <;> omega
theorem AS.place_inj {A : AS} {r o r' o' : Int} (ho : 0 ≤ o ∧ o < A.G.chunk) (ho' : 0 ≤ o' ∧ o' < A.G.chunk) (hc : 1 ≤ A.G.chunk ∧ A.G.chunk ≤ 4) (h : A.place r o = A.place r' o') : r = r' ∧ o = o' := by
  unfold AS.place at h
  have hcc : A.G.chunk = 1 ∨ A.G.chunk = 2 ∨ A.G.chunk = 3 ∨ A.G.chunk = 4 := by omega
  rcases hcc with e | e | e | e <;> rw [e] at h ho ho' <;> omega
namespace AS
variable {A : AS} {f : Drv → Drv}
theorem live_map (hd : ∀ d, (f d).dead = d.dead) (d : Option Drv) : live (d.map f) = (live d).map f := by
  cases d with
  | none => rfl
  | some d =>
    simp only [live, Option.map_some, hd]
    split <;> rfl
theorem mapAll_roleD (hd : ∀ d, (f d).dead = d.dead) (r i : Int) : (A.mapAll f).roleD r i = (A.roleD r i).map f := by
  unfold roleD mapAll
  simp only [List.getElem?_map]
  cases A.ds[(A.G.colOf r i).toNat]? with
  | none => rfl
  | some d =>
    cases A.built[(A.G.colOf r i).toNat]? with
    | none => rfl
    | some b =>
      simp only [Option.map_some]
      split
      · rfl
      · exact live_map hd d
end AS
theorem Drv.flushed_deads (d : Drv) : d.flushed.dead = d.dead := by unfold Drv.flushed; split <;> rfl
theorem Drv.crashed_deads (cnt : Nat → Nat → Nat) (d : Drv) : (d.crashed cnt).dead = d.dead := rfl
/-- What nothing is kept of. -/
theorem Drv.crashed_read (D : Drv) (hd : D.dead = false) {i : Int} (hi : 0 ≤ i ∧ i < D.n) (hs : D.sp i = false) : (D.crashed (Drv.kept [])).read i = (D.safe[i.toNat]?.getD [], 0) := by
  have hn := D.crashed_n (Drv.kept [])
  have hm : (D.crashed (Drv.kept [])).may i = 0 := by
    unfold Drv.may
    rw [hn, Drv.crashed_deads, hd]
    have : (D.crashed (Drv.kept [])).power = none := rfl
    rw [this]
    simp only [Bool.false_eq_true, if_false, reduceCtorEq]
    rw [if_neg (by omega)]
  unfold Drv.read
  rw [hm]
  have : (D.crashed (Drv.kept [])).sp i = false := hs
  rw [this]
  simp only [ne_eq, not_true_eq_false, if_false, Bool.false_eq_true]
  have hw : (D.crashed (Drv.kept [])).wr i = [] := rfl
  unfold Drv.val
  rw [hw]
  simp only [List.getLast?_nil, Option.getD_none]
  congr 2
  unfold Drv.crashed Drv.settledBy Drv.settled
  simp only [List.getElem?_mapIdx]
  cases D.safe[i.toNat]? with
  | none => rfl
  | some x => simp [Drv.keep, Drv.kept]
theorem Drv.flushed_safe (D : Drv) (hd : D.dead = false) (hp : D.power = none) (i : Nat) : D.flushed.safe[i]? = (D.safe[i]?).map fun x => ((D.wr (i : Int)).getLast?).getD x := by
  unfold Drv.flushed
  rw [if_neg (by simp [hd, hp])]
  unfold Drv.settledBy Drv.settled
  simp only [List.getElem?_mapIdx]
  have e1 : D.use.safe = D.safe := rfl
  have e2 : D.use.wr = D.wr := rfl
  rw [e1, e2]
  congr 1
  funext x
  have e3 : D.use.keep (fun _ m => m) (i : Int) = (D.wr (i : Int)).length := rfl
  rw [e3]
  split
  · rename_i h; rw [List.length_eq_zero_iff.1 h]; rfl
  · rw [List.getLast?_eq_getElem?]
section
variable {G : Geo} {m : Nat} {r o k : Int} {x : Sec}
theorem new_write_ds (hG : G.may) (hm : 4 + G.rows * G.chunk ≤ m) (hr : 0 ≤ r ∧ r < G.rows) (ho : 0 ≤ o ∧ o < G.chunk) (hk : 0 ≤ k ∧ k < G.cols) (hx : x.length = 64) :
    (AS.new G m).write r o k x = (AS.new G m).put (G.colOf r k).toNat (some ((Drv.fresh m).write ((AS.new G m).place r o) x)) := by
  have hw := new_wcode hG hm r o k hx
  rw [if_neg (by omega)] at hw
  unfold AS.write
  rw [if_neg (by omega), show (AS.new G m).G = G from rfl, new_at hG]
theorem new_write_mem (hG : G.may) (hm : 4 + G.rows * G.chunk ≤ m) (hr : 0 ≤ r ∧ r < G.rows) (ho : 0 ≤ o ∧ o < G.chunk) (hk : 0 ≤ k ∧ k < G.cols) (hx : x.length = 64) {c : Nat} (hc : (c : Int) < G.cols) :
    ((AS.new G m).write r o k x).ds[c]? = some (some (if (c : Int) = G.colOf r k then (Drv.fresh m).write ((AS.new G m).place r o) x else Drv.fresh m)) := by
  have hb := G.colOf_b hG r k
  rw [new_write_ds hG hm hr ho hk hx]
  simp only [AS.put, AS.new]
  by_cases h : (c : Int) = G.colOf r k
  · have e : (G.colOf r k).toNat = c := by omega
    rw [if_pos h, e, List.getElem?_set_self (by simp; omega)]
  · rw [if_neg h, List.getElem?_set_ne (by omega), List.getElem?_replicate, if_pos (by omega)]
theorem new_write_roleD (hG : G.may) (hm : 4 + G.rows * G.chunk ≤ m) (hr : 0 ≤ r ∧ r < G.rows) (ho : 0 ≤ o ∧ o < G.chunk) (hk : 0 ≤ k ∧ k < G.cols) (hx : x.length = 64) {i : Int} (hi : 0 ≤ i ∧ i < G.rows) (c : Int) :
    ((AS.new G m).write r o k x).roleD i c = some (if G.colOf i c = G.colOf r k then (Drv.fresh m).write ((AS.new G m).place r o) x else Drv.fresh m) := by
  have hb := G.colOf_b hG i c
  have h1 := new_write_mem (m := m) (c := (G.colOf i c).toNat) hG hm hr ho hk hx (by omega)
  unfold AS.roleD
  rw [AS.write_G, show (AS.new G m).G = G from rfl, h1, AS.write_built]
  have : (AS.new G m).built[(G.colOf i c).toNat]? = some G.rows := by
    simp only [AS.new]
    rw [List.getElem?_replicate, if_pos (by omega)]
  rw [this]
  simp only
  rw [if_neg (by omega)]
  have e : (((G.colOf i c).toNat : Nat) : Int) = G.colOf i c := by omega
  rw [e]
  split <;> rfl
theorem new_write_off (hG : G.may) (hm : 4 + G.rows * G.chunk ≤ m) (hr : 0 ≤ r ∧ r < G.rows) (ho : 0 ≤ o ∧ o < G.chunk) (hk : 0 ≤ k ∧ k < G.cols) (hx : x.length = 64) : ((AS.new G m).write r o k x).flcode = 0 := by
  have hf := AS.write_fine (AS.new_fine hG hm) r o k x
  unfold AS.flcode
  rw [if_neg (by simpa using hf)]
  have : ((AS.new G m).write r o k x).ds.any AS.isOff = false := by
    rw [List.any_eq_false]
    intro d hd
    obtain ⟨c, hc, rfl⟩ := List.getElem_of_mem hd
    have hl : ((AS.new G m).write r o k x).ds.length = G.cols.toNat := by rw [AS.write_len]; simp [AS.new]
    have h' := hG
    unfold Geo.may at h'
    have h1 := new_write_mem (m := m) (c := c) hG hm hr ho hk hx (by omega)
    rw [List.getElem?_eq_getElem hc, Option.some.injEq] at h1
    rw [h1]
    split <;> simp [AS.isOff, Drv.fcode, Drv.write, Drv.use, Drv.fresh]
  rw [this]
  rfl
/-- What stands behind the power's going. -/
noncomputable def writesEnd (G : Geo) (m : Nat) (r o k : Int) (x : Sec) (fl : Bool) : AS := (if fl then ((AS.new G m).write r o k x).flush else (AS.new G m).write r o k x).mapAll fun d => d.crashed (Drv.kept [])
theorem writesEnd_fine (hG : G.may) (hm : 4 + G.rows * G.chunk ≤ m) (fl : Bool) : (writesEnd G m r o k x fl).fine := by
  have hf := AS.write_fine (AS.new_fine hG hm) r o k x
  refine AS.mapAll_fine ?_ fun d => Drv.crashed_n d _
  cases fl with
  | false => exact hf
  | true =>
    rw [if_pos rfl]
    unfold AS.flush
    rw [if_pos hf]
    exact AS.mapAll_fine hf Drv.flushed_n
theorem writesEnd_G (fl : Bool) : (writesEnd G m r o k x fl).G = G := by
  unfold writesEnd
  cases fl with
  | false => exact AS.write_G _ _ _ _
  | true =>
    simp only [if_true, AS.mapAll, AS.flush]
    split
    · exact AS.write_G _ _ _ _
    · exact AS.write_G _ _ _ _
theorem write_sp (m : Nat) (p : Int) (x : Sec) (j : Int) : ((Drv.fresh m).write p x).sp j = false := by
  simp only [Drv.write, Drv.upd]
  split <;> rfl
theorem writesEnd_role (hG : G.may) (hm : 4 + G.rows * G.chunk ≤ m) (hr : 0 ≤ r ∧ r < G.rows) (ho : 0 ≤ o ∧ o < G.chunk) (hk : 0 ≤ k ∧ k < G.cols) (hx : x.length = 64) (fl : Bool) {i j c : Int} (hi : 0 ≤ i ∧ i < G.rows) (hj : 0 ≤ j ∧ j < G.chunk) (hc : 0 ≤ c ∧ c < G.cols) :
    (writesEnd G m r o k x fl).roleR i j c = if fl = true ∧ i = r ∧ j = o ∧ c = k then (x, 0) else (blank, 0) := by
  have hfine := AS.write_fine (AS.new_fine hG hm) r o k x
  have h' := hG
  unfold Geo.may at h'
  have hD := new_write_roleD (m := m) hG hm hr ho hk hx hi c
  have hpl := AS.place_b (AS.new_fine hG hm) hi hj
  have hpl0 := AS.place_b (AS.new_fine hG hm) hr ho
  rw [show (AS.new G m).G = G from rfl] at hpl hpl0
  have hplace : (writesEnd G m r o k x fl).place i j = (AS.new G m).place i j := by unfold AS.place; rw [writesEnd_G]; rfl
  have hblank : ∀ j : Int, 0 ≤ j ∧ j < m → ((Drv.fresh m).safe[j.toNat]?).getD [] = blank := fun j hj => by
    simp only [Drv.fresh]; rw [List.getElem?_replicate, if_pos (by omega)]; rfl
  have hwn : ((Drv.fresh m).write ((AS.new G m).place r o) x).n = m := by
    have : ((Drv.fresh m).write ((AS.new G m).place r o) x).n = (Drv.fresh m).n := rfl
    rw [this, fresh_n]
  have hfn := fresh_n m
  unfold AS.roleR
  rw [hplace]
  generalize hpe : (AS.new G m).place i j = pl at *
  generalize hpe0 : (AS.new G m).place r o = pl0 at *
  have hplm : 0 ≤ pl ∧ pl < (m : Int) := by omega
  have hinj : G.colOf i c = G.colOf r k → pl = pl0 → i = r ∧ j = o ∧ c = k := by
    intro h1 h2
    rw [← hpe, ← hpe0] at h2
    obtain ⟨h3, h4⟩ := AS.place_inj (A := AS.new G m) hj ho (by show 1 ≤ G.chunk ∧ G.chunk ≤ 4; omega) h2
    subst h3
    exact ⟨rfl, h4, G.colOf_inj hG _ hc hk h1⟩
  unfold writesEnd
  rw [AS.mapAll_roleD (Drv.crashed_deads _)]
  cases fl with
  | false =>
    simp only [Bool.false_eq_true, if_false, false_and]
    rw [hD]
    simp only [Option.map_some]
    split
    · rw [Drv.crashed_read _ rfl (by rw [hwn]; omega) (write_sp ..)]
      have : ((Drv.fresh m).write pl0 x).safe = (Drv.fresh m).safe := rfl
      rw [this, hblank _ hplm]
    · rw [Drv.crashed_read _ rfl (by rw [hfn]; omega) rfl, hblank _ hplm]
  | true =>
    simp only [if_true, true_and]
    have hfl : ((AS.new G m).write r o k x).flush = ((AS.new G m).write r o k x).mapAll Drv.flushed := by unfold AS.flush; rw [if_pos hfine]
    rw [hfl, AS.mapAll_roleD Drv.flushed_deads, hD]
    simp only [Option.map_some]
    by_cases hcol : G.colOf i c = G.colOf r k
    · rw [if_pos hcol]
      have hsp : ((Drv.fresh m).write pl0 x).flushed.sp pl = false := by
        unfold Drv.flushed; split <;> exact write_sp m pl0 x pl
      rw [Drv.crashed_read _ (by rw [Drv.flushed_deads]; rfl) (by rw [Drv.flushed_n, hwn]; omega) hsp, Drv.flushed_safe _ rfl rfl]
      have hsafe : ((Drv.fresh m).write pl0 x).safe[pl.toNat]? = some blank := by
        show (List.replicate m blank)[pl.toNat]? = _
        rw [List.getElem?_replicate, if_pos (by omega)]
      rw [hsafe]
      have e : ((pl.toNat : Nat) : Int) = pl := by omega
      rw [e]
      by_cases hp : pl = pl0
      · obtain ⟨h1, h2, h3⟩ := hinj hcol hp
        rw [if_pos ⟨h1, h2, h3⟩]
        subst hp
        simp [Drv.write, Drv.upd, Drv.fresh]
      · have hn : ¬ (i = r ∧ j = o ∧ c = k) := by
          rintro ⟨rfl, rfl, rfl⟩
          exact hp (by rw [← hpe, ← hpe0])
        rw [if_neg hn]
        simp [Drv.write, Drv.upd, Drv.fresh, hp]
    · rw [if_neg hcol]
      have hn : ¬ (i = r ∧ j = o ∧ c = k) := by
        rintro ⟨rfl, rfl, rfl⟩
        exact hcol rfl
      rw [if_neg hn, Drv.crashed_read _ (by rw [Drv.flushed_deads]; rfl) (by rw [Drv.flushed_n, hfn]; omega) (by unfold Drv.flushed; split <;> rfl), Drv.flushed_safe _ rfl rfl]
      have hsafe : (Drv.fresh m).safe[pl.toNat]? = some blank := by
        show (List.replicate m blank)[pl.toNat]? = _
        rw [List.getElem?_replicate, if_pos (by omega)]
      rw [hsafe]
      simp [Drv.fresh]
end
end Go.Rv
namespace Go.Rv
theorem AS.flushed_small {A : AS} {N : Nat} (h : A.small N) : (A.mapAll Drv.flushed).small N := by
  intro d hd j
  simp only [AS.mapAll, List.mem_map] at hd
  obtain ⟨e, he, h'⟩ := hd
  cases e with
  | none => cases h'
  | some e =>
    cases h'
    have := h e he j
    unfold Drv.flushed
    split
    · exact this
    · exact Nat.zero_le _
end Go.Rv
namespace Go.Rv
open Go.RowKit
theorem ev_s {P : Program} {w : World} {t e : TypeId} {g n cap i : Nat} {xs : List Value} {v : Value} [Sc P t] (h : (Rs.s (.slice (some ⟨g, 0, none⟩) n cap) e 1 n xs).ok w) (hx : xs[i]? = some v) : Ev P (.load t (.pointer (some ⟨g, i, none⟩))) w v := by
  have hl := (List.getElem?_eq_some_iff.1 hx).1
  have h0 := h
  rw [s_ok] at h0
  have h1 := h0.1
  obtain ⟨g', cap', cur, he, hb, ht, _⟩ := s_open h (by omega)
  injection he with e1 e2 e3
  cases e1
  refine el_sc hb ?_
  have : (cur.take (n * 1))[i]? = some v := by rw [ht]; exact hx
  rwa [List.getElem?_take_of_lt (by omega)] at this
end Go.Rv
