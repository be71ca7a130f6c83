/- Part of the proof that YteemoolcphhkbaaGreat holds whatever the input: a text of contracts, laws and steps; no condition. -/
import Derived.Test.YteemoolcphhkbaaGreatRvL
set_option linter.all false
set_option autoImplicit false
namespace Go.Rv
open Go.RowKit
/-! ### A drive opened at one sector, and closed again -/
section
variable {J : World → Prop} {U : Nat → Prop} {w : World} {l : List Rs}
theorem Cur.ghost (H : Cur J U w l) {r : Rs} (hr : r.ok w) (hf : ∀ b, ¬ r.foot b) : Cur J U w (r :: l) := by
  refine ⟨H.j, fun s hs => ?_, fun s hs b hb => ?_, List.pairwise_cons.2 ⟨fun s _ b hb => (hf b hb).elim, H.ap⟩⟩
  · rcases List.mem_cons.1 hs with rfl | h
    · exact hr
    · exact H.ok s h
  · rcases List.mem_cons.1 hs with rfl | h
    · exact (hf b hb).elim
    · exact H.own s h b hb
theorem nil_ok {e : TypeId} {size : Nat} {w : World} : (Rs.s (.slice none 0 0) e size 0 []).ok w := by
  rw [s_ok]; exact ⟨by simp, .inl ⟨rfl, rfl⟩⟩
theorem nil_foot {e : TypeId} {size : Nat} (b : Nat) : ¬ (Rs.s (.slice none 0 0) e size 0 []).foot b := by
  rw [s_foot]; simp [Value.ownBlock]
def DP.rowAt (p : DP) (i : Int) : Rs := .s ((mget p.es i).getD (.slice none 0 0)) p.te 64 (p.D.wr i).length ((p.D.wr i).flatMap u8s)
def DP.four (p : DP) : List Rs := [.b p.b (.cells p.head.toArray p.ty), .b p.bs (.cells (p.D.safe.flatMap u8s).toArray p.ts), .b p.bw (.map p.es.toArray p.c), .b p.bp (.map p.es2.toArray p.c2)]
theorem DP.open_at {p : DP} {te : TypeId} (hg : p.good te) (i : Int) (hJ : Jst J U) (H : Cur J U w (p.r :: l)) :
    ∃ J' U', Jst J' U' ∧ Cur J' U' w (p.four ++ p.rowAt i :: l) ∧ ∀ w' l', Cur J' U' w' l' → Cur J U w' (l' ++ (others p.es i).map p.row) := by
  have H1 : Cur J U w (p.four ++ (p.es.map p.row ++ l)) := by
    have := H.open
    unfold DP.parts at this
    rw [List.append_assoc] at this
    exact this
  have H2 : Cur J U w ((p.four ++ p.rowAt i :: l) ++ (others p.es i).map p.row) := by
    cases hm : mget p.es i with
    | none =>
      have h0 := hg.out i hm
      rw [others_none hm]
      have e : p.rowAt i = .s (.slice none 0 0) p.te 64 0 [] := by simp [DP.rowAt, hm, h0]
      rw [e]
      refine (H1.ghost (nil_ok (e := p.te) (size := 64)) nil_foot).perm ?_
      refine (List.perm_middle (l₁ := p.four)).symm.trans ?_
      rw [List.append_assoc, List.cons_append]
      exact List.Perm.append_left _ ((List.perm_append_comm (l₁ := p.es.map p.row) (l₂ := l)).cons _)
    | some v =>
      obtain ⟨e, hk, hv, hp⟩ := others_some hg.m.nodup hm
      have he : p.row e = p.rowAt i := by simp [DP.row, DP.rowAt, hk, hm, hv]
      refine H1.perm ?_
      rw [List.append_assoc, List.cons_append]
      refine List.Perm.append_left _ ?_
      have h1 := (hp.map p.row).append_right l
      rw [List.map_cons, he] at h1
      exact h1.trans ((List.perm_append_comm (l₁ := (others p.es i).map p.row) (l₂ := l)).cons _)
  obtain ⟨J', U', h1, h2, h3⟩ := H2.aside hJ
  exact ⟨J', U', h1, h2, h3⟩

/-- Closed again, with another row at that sector. -/
theorem DP.close_at {p p' : DP} {te : TypeId} (hg : p'.good te) (i : Int) (H : Cur J U w ((p'.four ++ p'.rowAt i :: l) ++ (others p.es i).map p.row))
    (ho : others p'.es i = others p.es i) (hte : p'.te = p.te) (hw : ∀ j, j ≠ i → p'.D.wr j = p.D.wr j) : Cur J U w (p'.r :: l) := by
  have hrow : (others p.es i).map p.row = (others p'.es i).map p'.row := by
    rw [ho]
    refine List.map_congr_left fun e he => ?_
    have : keyI e.key ≠ i := by
      have := (List.mem_filter.1 he).2
      simpa using this
    simp only [DP.row, hte, hw _ this]
  rw [hrow] at H
  unfold DP.r
  refine Cur.close ?_
  have e : p'.parts = p'.four ++ p'.es.map p'.row := rfl
  rw [e, List.append_assoc]
  cases hm : mget p'.es i with
  | none =>
    rw [others_none hm] at H
    have H3 : Cur J U w (p'.rowAt i :: (p'.four ++ (p'.es.map p'.row ++ l))) := by
      refine H.perm ?_
      refine List.Perm.trans ?_ (List.perm_middle (l₁ := p'.four))
      rw [List.append_assoc, List.cons_append]
      exact List.Perm.append_left _ ((List.perm_append_comm (l₁ := l) (l₂ := p'.es.map p'.row)).cons _)
    exact H3.drop (List.sublist_cons_self _ _)
  | some v =>
    obtain ⟨e, hk, hv, hp⟩ := others_some hg.m.nodup hm
    have he : p'.row e = p'.rowAt i := by simp [DP.row, DP.rowAt, hk, hm, hv]
    refine H.perm ?_
    rw [List.append_assoc, List.cons_append]
    refine List.Perm.append_left _ ?_
    have h1 := (hp.map p'.row).append_right l
    rw [List.map_cons, he] at h1
    exact ((List.perm_append_comm (l₁ := l) (l₂ := (others p'.es i).map p'.row)).cons _).trans h1.symm
theorem Join_in {K : List Value → World → Prop} {B : (List Value → World → Prop) → Prop} (h : B K) : Join K B := ⟨K, fun _ _ h => h, h⟩
variable {P : Program} {k : KV}
theorem el_all {t : TypeId} {b n : Nat} {c : List Value} [hs : Ag P t n] (h : BlkL w b c) (hn : c.length = n) : Ev P (.load t (.pointer (some ⟨b, 0, none⟩))) w (.agg c.toArray) :=
  el_ag h (by rw [List.drop_zero, ← hn, List.take_length]) hn
theorem D_mkSl1 (hJ : Jst J U) (H : Cur J U w l) {t e : TypeId} {sz y : Nat} {z v : Value} {c : List Value} [hs : Sl P t e sz y z] (hv : v.cells = c.toArray) (hc : c.length = sz) (h0 : 0 < sz) (h16 : sz ≤ 16777216)
    (hk : ∀ w' b, Cur J U w' (l ++ [.b b (.cells c.toArray e)]) → k (.slice (some ⟨b, 0, none⟩) 1 1) w') : D P (.mkSl t 1 [(0, v)]) k w := by
  have hzs : z.cells.size = sz := by obtain ⟨_, _, _, _, _, _, h⟩ := hs.out; exact h
  refine D_mkSl hJ H (c := c.toArray) (by omega) ?_ hk
  have e1 : ¬ (1 * sz = 0) := by omega
  simp only [e1, if_false, hzs, Nat.one_mul]
  have e2 : ∀ a : Array Value, a.size = sz → a = a.toList.toArray := fun a _ => by simp
  have := fill_of (pl := [(0, sz)]) (f := fun j => some (j * sz, sz)) (fun i p hp => by
    cases i with
    | zero => simp at hp; rw [← hp]; simp
    | succ i => simp at hp) (ps := [(0, v)]) (z := ((Array.range sz).map fun j => z.cells[j % sz]!).toList) (c := c) (by
      have hvl : v.cells.toList.length = sz := by rw [hv]; simpa using hc
      simp only [fillL, List.getElem?_cons_zero]
      rw [if_pos ⟨hvl, by simp⟩]
      simp [hv, hc])
  have e3 : ¬ sz = 0 := by omega
  simp only [Array.toArray_toList] at this
  simp only [Nat.one_mul, e3, if_false, hzs] at *
  exact this
theorem wrap_range (x : Int) : -9223372036854775808 ≤ IntKind.i64.wrap x ∧ IntKind.i64.wrap x ≤ 9223372036854775807 := by
  have e1 : (2 : Int) ^ 64 = 18446744073709551616 := by decide
  have e2 : (2 : Int) ^ (64 - 1) = 9223372036854775808 := by decide
  simp only [IntKind.wrap, IntKind.bits, IntKind.signed, Bool.true_and, decide_eq_true_eq, e1, e2]
  split <;> omega
theorem may_power {D : Drv} {i : Int} (h : D.may i = 0) : D.power ≠ some 0 := by
  unfold Drv.may at h
  intro h'
  split at h
  · cases h
  · simp [h'] at h
theorem may_range {D : Drv} {i : Int} (h : D.may i = 0) : 0 ≤ i ∧ i < D.n := by
  unfold Drv.may at h
  split at h
  · cases h
  · split at h
    · cases h
    · split at h
      · cases h
      · omega
def DP.used (p : DP) : Int := IntKind.i64.wrap (p.left - 1)
theorem DP.used_pow {p : DP} {te : TypeId} (hg : p.good te) (h0 : p.D.power ≠ some 0) : ∀ k : Nat, p.D.power.map (fun n => n - 1) = some k → p.used = (k : Int) := by
  intro k hk
  cases hp : p.D.power with
  | none => rw [hp] at hk; cases hk
  | some n =>
    rw [hp] at hk
    simp only [Option.map_some, Option.some.injEq] at hk
    have h1 := hg.pow n hp
    have h2 := hg.left
    have h3 : n ≠ 0 := fun e => h0 (by rw [hp, e])
    unfold DP.used
    rw [wrap_in (by simp [IntKind.min, IntKind.max, IntKind.bits, IntKind.signed]; omega)]
    omega
theorem Drv.write_ok {D : Drv} (h : D.ok) {i : Int} {x : Sec} (hx : x.length = 64) (hm : D.may i = 0) : (D.write i x).ok := by
  refine ⟨h.big, h.safe, fun j y hy => ?_, fun j hj => ?_⟩
  · simp only [Drv.write, Drv.upd] at hy
    split at hy
    · rcases List.mem_append.1 hy with h' | h'
      · exact h.wr i y h'
      · rw [List.mem_singleton.1 h']; exact hx
    · exact h.wr j y hy
  · have hr := may_range hm
    simp only [Drv.write, Drv.upd]
    have : j ≠ i := by
      intro e; subst e
      rcases hj with hj | hj
      · omega
      · have : (D.write j x).n = D.n := rfl
        omega
    rw [if_neg this]
    exact h.out j hj
def DP.written (p : DP) (i : Int) (x : Sec) (es' : List MapEntry) (c' : Nat) (es2' : List MapEntry) : DP := { p with es := es', c := c', es2 := es2', left := p.used, D := p.D.write i x }
theorem DP.written_good {p : DP} {te : TypeId} (hg : p.good te) {i : Int} {x : Sec} {es' es2' : List MapEntry} {c' : Nat} {v : Value} (hx : x.length = 64) (hm : p.D.may i = 0) (h1 : MapI es' c') (h2 : MapI es2' p.c2)
    (hget : ∀ y, mget es' y = if y = i then some v else mget p.es y) (hget2 : ∀ y, mget es2' y = if y = i then none else mget p.es2 y) : (p.written i x es' c' es2').good te := by
  refine ⟨Drv.write_ok hg.D hx hm, hg.e, h1, h2, fun y hy => ?_, fun y u hy => ?_, fun y => ?_, wrap_range _, DP.used_pow hg (may_power hm)⟩
  · have hy : mget es' y = none := hy
    rw [hget] at hy
    split at hy
    · cases hy
    · rename_i hne
      show Drv.upd _ _ _ y = []
      simp only [Drv.upd, if_neg hne]
      exact hg.out y hy
  · have hy : mget es' y = some u := hy
    rw [hget] at hy
    show Drv.upd _ _ _ y ≠ []
    by_cases hyi : y = i
    · simp [Drv.upd, hyi]
    · rw [if_neg hyi] at hy
      simp only [Drv.upd, if_neg hyi]
      exact hg.ne y u hy
  · show mget es2' y = _
    rw [hget2]
    show _ = if Drv.upd p.D.sp i false y = true then _ else _
    by_cases hy : y = i
    · subst hy; simp [Drv.upd]
    · simp only [Drv.upd, if_neg hy]; exact hg.sp y
theorem el_pre {t : TypeId} {b n : Nat} {cs rest : List Value} [hs : Ag P t n] (h : BlkL w b (cs ++ rest)) (hn : cs.length = n) : Ev P (.load t (.pointer (some ⟨b, 0, none⟩))) w (.agg cs.toArray) :=
  el_ag h (by rw [List.drop_zero, ← hn, List.take_left]) hn
end
namespace Drv
def wcode (D : Drv) (i : Int) (x : Sec) : Int := if D.may i ≠ 0 then D.may i else if x.length ≠ 64 then 1 else 0
end Drv
end Go.Rv
