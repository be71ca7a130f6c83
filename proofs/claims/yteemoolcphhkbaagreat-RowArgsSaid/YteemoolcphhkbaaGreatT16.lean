/- Part of the proof that YteemoolcphhkbaaGreat holds whatever the input: a text of contracts, laws and steps; no condition. -/
import Derived.Test.YteemoolcphhkbaaGreatT15
set_option linter.all false
set_option autoImplicit false
set_option maxRecDepth 100000
set_option maxHeartbeats 4000000
namespace Go.Proofs.YteemoolcphhkbaaGreat
open Go Go.Rv Go.RowKit
theorem rowargs_c {w0 : World} {a b c r o i : Int} (ha : 0 ≤ a ∧ a < 256) (hb : 0 ≤ b ∧ b < 256) (hc : 0 ≤ c ∧ c < 256) :
    PureC pg 5 [.int .u8 a, .int .u8 b, .int .u8 c, .int .i64 r, .int .i64 o, .int .i64 i] w0 fun v _ => v = .bool true := by
  refine l5 ?_
  unfold c5
  have e97 : Value.string ⟨#[97]⟩ = str [97] := rfl
  have e98 : Value.string ⟨#[]⟩ = str [] := rfl
  rw [e97, e98]
  have hJ := jst_below w0; have H : Cur (Below w0.heap.size w0) (w0.heap.size ≤ ·) w0 [] := Cur.nil (Below.refl _ w0)
  obtain ⟨G, hGe⟩ : ∃ G : Geo, G = ⟨4 + a % 4, 1 + b % 3, 1 + c % 6⟩ := ⟨_, rfl⟩
  have hG : G.may := by subst hGe; unfold Geo.may; simp only; omega
  have hG' := hG
  unfold Geo.may at hG'
  have hgeo : ∀ w, PureC pg 8 [.int .u8 a, .int .u8 b, .int .u8 c] w fun v _ => v = G.v := fun w => by rw [hGe]; exact geometry_c ha hb hc
  (repeat' (first | (refine D_evT H ?_ ?_; · (first | exact trivial | omega | assumption)) | (refine D_cmp ?_ ?_ <;> intro h_ <;> first | (exfalso; omega) | skip) | (refine D_storeT hJ H rfl ?_ ?_; (focus first | rfl | exact trivial); clear H; intro w H) | (refine Dr_cur hJ H ?_; clear H; intro w H _) | (refine Fl_evT H ?_ ?_; · (first | exact trivial | omega | assumption)) | (refine Fl_cmp ?_ ?_ <;> intro h_ <;> first | (exfalso; omega) | skip) | refine Cnd_true ?_ | refine Cnd_false ?_ | refine GD_true ?_ | refine GM_true ?_ | refine GF_true ?_ | refine GD_false rfl ?_ | refine GM_false rfl ?_ | refine GF_false rfl ?_ | (apply and_st; · (repeat (first | exact stAll_nil | (refine st_evT H ?_ ?_; · (first | exact trivial | omega | assumption)) | (refine st_cmpt (by first | assumption | omega) ?_) | (refine st_cmpf (by first | assumption | omega) ?_)))) | (apply andS_in; · (simp only [pureQ, pureV, consO, cond_true, cond_false]; (repeat (first | exact stAll_nil | (refine st_evT H ?_ ?_; · (first | exact trivial | omega | assumption)) | (refine st_cmpt (by first | assumption | omega) ?_) | (refine st_cmpf (by first | assumption | omega) ?_))))) | (refine D_mkT hJ H ?_; clear H; intro w H) | (refine D_ldR H rfl ?_) | (refine Fl_ldR H rfl ?_) | (apply D_ev; · (apply ev_build; (simp only [fillL, Value.cells, List.getElem?_cons_zero, List.getElem?_cons_succ, Nat.reduceLeDiff, and_self, if_true, Int.reduceToNat, Int.toNat_zero, Int.toNat_one, Nat.reduceSub, List.drop_succ_cons, List.drop_zero, List.take_succ_cons, List.take_zero, List.cons_append, List.nil_append, List.append_nil, List.set_cons_zero, List.set_cons_succ, Nat.zero_add, Nat.add_zero, Nat.reduceAdd, Nat.reduceMul, List.length_cons, List.length_nil]; rfl))) | (refine D_ldA H (by simp only [Int.reduceToNat, Int.toNat_zero, Int.toNat_one, Nat.reduceSub, List.drop_succ_cons, List.drop_zero, List.take_succ_cons, List.take_zero, List.cons_append, List.nil_append, List.append_nil, List.set_cons_zero, List.set_cons_succ, Nat.zero_add, Nat.add_zero, Nat.reduceAdd, Nat.reduceMul, List.length_cons, List.length_nil]; rfl) rfl ?_) | (apply D_ev; · exact el_sc (old_b H (by assumption)) rfl) | (apply Fl_ev; · exact el_sc (old_b H (by assumption)) rfl) | (refine D_pureV hJ H (hgeo _) ?_; clear H; intro w H) | (refine D_cong (by simp only [Go.Rv.g, dptr]; rfl) ?_) | (refine Cnd_cong (by simp only [Go.Rv.g]; rfl) ?_) | (refine Fl_cong (by simp only [Go.Rv.g, dptr]; rfl) ?_) | (refine GD_cong (by simp only [Go.Rv.g]; rfl) ?_) | fail))
  (first | (refine D_boxL hJ H rfl ?_; clear H; intro w b13 H; simp only [List.cons_append, List.nil_append] at H) | (refine D_boxT hJ H ?_ ?_; (focus first | rfl | exact trivial); clear H; intro w b13 H; simp only [List.cons_append, List.nil_append] at H) | (refine D_allocL hJ H ?_; clear H; intro w b13 H; simp only [List.cons_append, List.nil_append] at H) | (refine D_mkSlc hJ H rfl ?_; clear H; intro w b13 H; simp only [List.cons_append, List.nil_append] at H) | (refine D_mkSlT hJ H ?_ ?_; (focus first | rfl | exact trivial); clear H; intro w b13 H; simp only [List.cons_append, List.nil_append] at H) | (refine D_appL hJ H ?_ ?_ ?_ ?_; (focus rfl); (focus omega); (focus omega); clear H; intro w b13 cap_b13 H))
  repeat' (first | (refine D_evT H ?_ ?_; · (first | exact trivial | omega | assumption)) | (refine D_cmp ?_ ?_ <;> intro h_ <;> first | (exfalso; omega) | skip) | (refine D_storeT hJ H rfl ?_ ?_; (focus first | rfl | exact trivial); clear H; intro w H) | (refine Dr_cur hJ H ?_; clear H; intro w H _) | (refine Fl_evT H ?_ ?_; · (first | exact trivial | omega | assumption)) | (refine Fl_cmp ?_ ?_ <;> intro h_ <;> first | (exfalso; omega) | skip) | refine Cnd_true ?_ | refine Cnd_false ?_ | refine GD_true ?_ | refine GM_true ?_ | refine GF_true ?_ | refine GD_false rfl ?_ | refine GM_false rfl ?_ | refine GF_false rfl ?_ | (apply and_st; · (repeat (first | exact stAll_nil | (refine st_evT H ?_ ?_; · (first | exact trivial | omega | assumption)) | (refine st_cmpt (by first | assumption | omega) ?_) | (refine st_cmpf (by first | assumption | omega) ?_)))) | (apply andS_in; · (simp only [pureQ, pureV, consO, cond_true, cond_false]; (repeat (first | exact stAll_nil | (refine st_evT H ?_ ?_; · (first | exact trivial | omega | assumption)) | (refine st_cmpt (by first | assumption | omega) ?_) | (refine st_cmpf (by first | assumption | omega) ?_))))) | (refine D_mkT hJ H ?_; clear H; intro w H) | (refine D_ldR H rfl ?_) | (refine Fl_ldR H rfl ?_) | (apply D_ev; · (apply ev_build; (simp only [fillL, Value.cells, List.getElem?_cons_zero, List.getElem?_cons_succ, Nat.reduceLeDiff, and_self, if_true, Int.reduceToNat, Int.toNat_zero, Int.toNat_one, Nat.reduceSub, List.drop_succ_cons, List.drop_zero, List.take_succ_cons, List.take_zero, List.cons_append, List.nil_append, List.append_nil, List.set_cons_zero, List.set_cons_succ, Nat.zero_add, Nat.add_zero, Nat.reduceAdd, Nat.reduceMul, List.length_cons, List.length_nil]; rfl))) | (refine D_ldA H (by simp only [Int.reduceToNat, Int.toNat_zero, Int.toNat_one, Nat.reduceSub, List.drop_succ_cons, List.drop_zero, List.take_succ_cons, List.take_zero, List.cons_append, List.nil_append, List.append_nil, List.set_cons_zero, List.set_cons_succ, Nat.zero_add, Nat.add_zero, Nat.reduceAdd, Nat.reduceMul, List.length_cons, List.length_nil]; rfl) rfl ?_) | (apply D_ev; · exact el_sc (old_b H (by assumption)) rfl) | (apply Fl_ev; · exact el_sc (old_b H (by assumption)) rfl) | (refine D_cong (by simp only [Go.Rv.g, dptr]; rfl) ?_) | (refine Cnd_cong (by simp only [Go.Rv.g]; rfl) ?_) | (refine Fl_cong (by simp only [Go.Rv.g, dptr]; rfl) ?_) | (refine GD_cong (by simp only [Go.Rv.g]; rfl) ?_) | fail)
  refine D_makes hJ H (cap := []) (pair_c _ hG false) ?_
  clear H
  rintro v w ls ⟨S, R, rfl, hS, hR, rfl⟩ _ H
  simp only [List.cons_append, List.nil_append] at H
  obtain ⟨p, hp⟩ := new_head hG hS
  have hfd : S.dcur[S.doff + (0 : Int).toNat * 1]? = some (ptr p.b) := hS.fit.d 0 _ hp
  obtain ⟨RG, Rds, Rb, Rdv, Rbv⟩ := R
  obtain ⟨d1, d2, d3, h1⟩ := hR.dv
  obtain ⟨d4, d5, d6, h2⟩ := hR.bv
  simp only at h1 h2
  subst h1
  subst h2
  have hSa := new_a hS
  have hchunk : 0 ≤ G.rows * G.chunk := Int.mul_nonneg (by omega) (by omega)
  have hm : 4 + G.rows * G.chunk ≤ (geoM G false : Nat) := by unfold geoM; simp; omega
  have hfine := AS.new_fine hG hm
  have hGS : S.a.G = G := by rw [hSa]; rfl
  have hlen : (S.ds.length : Int) = G.cols := by have := congrArg (fun A : AS => A.ds.length) hSa; simp [RS.a, AS.new] at this; omega
  have hsm : S.a.small 1099511627775 := by rw [hSa]; exact fun d hd j => Nat.le_trans (new_small d hd j) (by omega)
  have hmay : ∀ w, S.is w → PureC pg 21 [S.v] w fun v _ => v = .bool true := fun w h => by
    have := may_a S hS.fit h
    rw [hSa, decide_eq_true hfine] at this
    exact this
  have hcode : S.a.code r o = if r < 0 ∨ G.rows ≤ r ∨ o < 0 ∨ G.chunk ≤ o then 70 else 0 := by rw [hSa, AS.code_of hfine]; rfl
  have hrole : ∀ j : Int, ¬ (r < 0 ∨ G.rows ≤ r ∨ o < 0 ∨ G.chunk ≤ o) → S.a.roleR r o j = (Go.Rv.blank, 0) := fun j h => by rw [hSa]; exact new_roleR hG hm (by omega) (by omega) j
  have hin : (S.a.code r o = 0 ∧ ¬ (r < 0 ∨ G.rows ≤ r ∨ o < 0 ∨ G.chunk ≤ o)) ∨ (S.a.code r o = 70 ∧ (r < 0 ∨ G.rows ≤ r ∨ o < 0 ∨ G.chunk ≤ o)) := by
    rw [hcode]; split <;> simp_all
  have hread : ∀ w, S.is w → MakesC pg 17 [S.v, .int .i64 r, .int .i64 o] [] w fun v ls => ∃ lv mv, v = .tuple #[lv, mv, .int .i64 (S.a.code r o)] := fun w h => by
    refine MakesC.mono (readrow_c S r o hS.fit h) ?_
    rintro v ls (⟨h1, rfl, rfl⟩ | ⟨h1, ⟨j, hj, hj'⟩, rfl, rfl⟩ | ⟨h1, h42, lv, mv, rfl, rfl⟩)
    · exact ⟨_, _, by rw [code_a]⟩
    · rw [code_a] at h1
      unfold RS.re at hj'
      rw [roleR_a, hrole _ (by omega)] at hj'
      cases hj'
    · exact ⟨lv, mv, by rw [← code_a, h1]⟩
  obtain ⟨sx, sf, hsec, hsf⟩ : ∃ (sx : Sec) (sf : Int), (∀ w, S.is w → PureC pg 16 [S.v, .int .i64 r, .int .i64 o, .int .i64 i] w fun v _ => v = .tuple #[str sx, .int .i64 sf]) ∧
      ((S.a.code r o = 0 ∧ 0 ≤ i ∧ i < G.cols - 2 ∧ sf = 0) ∨ (¬ (S.a.code r o = 0 ∧ 0 ≤ i ∧ i < G.cols - 2) ∧ sf = 70)) := by
    have hs := fun w (h : S.is w) => sector_a S r o i hS.fit h (fun h1 h2 h3 => by rw [hrole i (by omega)]; decide)
    rw [hGS] at hs
    by_cases h1 : S.a.code r o = 0
    · by_cases h2 : i < 0 ∨ G.cols - 2 ≤ i
      · exact ⟨[], 70, fun w h => by have := hs w h; rwa [if_neg (by simpa using h1), if_pos h2] at this, .inr ⟨by omega, rfl⟩⟩
      · exact ⟨Go.Rv.blank, 0, fun w h => by have := hs w h; rwa [if_neg (by simpa using h1), if_neg h2, hrole i (by omega)] at this, .inl ⟨h1, by omega, by omega, rfl⟩⟩
    · exact ⟨[], 70, fun w h => by have := hs w h; rw [if_pos h1] at this; rwa [show S.a.code r o = 70 by omega] at this, .inr ⟨by omega, rfl⟩⟩
  have hwc : (S.a.wcode r o i (full [97]) = 0 ∧ S.a.code r o = 0 ∧ 0 ≤ i ∧ i < G.cols) ∨ (S.a.wcode r o i (full [97]) = 70 ∧ ¬ (S.a.code r o = 0 ∧ 0 ≤ i ∧ i < G.cols)) := by
    have h1 := new_wcode hG hm r o i (full_len [97])
    rw [hSa, h1]
    rw [hSa] at hin
    split <;> omega
  have hcap := hS.cap
  have hGv : S.G = G := hS.g
  have hcase : (S.a.code r o = 0 ∧ (0 ≤ r ∧ r < G.rows ∧ 0 ≤ o ∧ o < G.chunk) ∧ ((sf = 70 ∧ S.a.wcode r o i (full [97]) = 70 ∧ (i < 0 ∨ G.cols ≤ i)) ∨ (sf = 0 ∧ S.a.wcode r o i (full [97]) = 0 ∧ 0 ≤ i ∧ i < G.cols - 2) ∨ (sf = 70 ∧ S.a.wcode r o i (full [97]) = 0 ∧ G.cols - 2 ≤ i ∧ i < G.cols))) ∨
      (S.a.code r o = 70 ∧ (r < 0 ∨ G.rows ≤ r ∨ o < 0 ∨ G.chunk ≤ o) ∧ sf = 70 ∧ S.a.wcode r o i (full [97]) = 70) := by
    clear hread hsec hrole hcode
    omega
  obtain ⟨ec, hec⟩ : ∃ ec, S.a.code r o = ec := ⟨_, rfl⟩
  obtain ⟨wc, hwce⟩ : ∃ wc, S.a.wcode r o i (full [97]) = wc := ⟨_, rfl⟩
  have hwr := fun w => write_a S r o i (full [97]) (w0 := w) hS.fit (by rw [full_len]; omega) hsm
  rw [hec] at hread hcase
  rw [hwce] at hcase
  simp only [hwce] at hwr
  clear hin hsf hwc hrole hcode hec hwce hchunk hm
  rcases hcase with ⟨rfl, hin, ⟨rfl, rfl, hi⟩ | ⟨rfl, rfl, hi⟩ | ⟨rfl, rfl, hi⟩⟩ | ⟨rfl, hin, rfl, rfl⟩
  all_goals repeat' (first | (apply D_ev; · (exact el_sc (RS.is_all (H.at (i := 1) rfl)).d hfd)) | (apply Fl_ev; · (exact el_sc (RS.is_all (H.at (i := 1) rfl)).d hfd)) | (refine D_boxL hJ H rfl ?_; clear H; intro w b H; simp only [List.cons_append, List.nil_append] at H) | (refine D_boxT hJ H ?_ ?_; (focus first | rfl | exact trivial); clear H; intro w b H; simp only [List.cons_append, List.nil_append] at H) | (refine D_allocL hJ H ?_; clear H; intro w b H; simp only [List.cons_append, List.nil_append] at H) | (refine D_mkSlc hJ H rfl ?_; clear H; intro w b H; simp only [List.cons_append, List.nil_append] at H) | (refine D_mkSlT hJ H ?_ ?_; (focus first | rfl | exact trivial); clear H; intro w b H; simp only [List.cons_append, List.nil_append] at H) | (refine D_appL hJ H ?_ ?_ ?_ ?_; (focus rfl); (focus omega); (focus omega); clear H; intro w b cap_b H) | (refine D_evT H ?_ ?_; · (first | exact trivial | omega | assumption)) | (refine D_cmp ?_ ?_ <;> intro h_ <;> first | (exfalso; omega) | skip) | (refine D_storeT hJ H rfl ?_ ?_; (focus first | rfl | exact trivial); clear H; intro w H) | (refine Dr_cur hJ H ?_; clear H; intro w H _) | (refine Fl_evT H ?_ ?_; · (first | exact trivial | omega | assumption)) | (refine Fl_cmp ?_ ?_ <;> intro h_ <;> first | (exfalso; omega) | skip) | refine Cnd_true ?_ | refine Cnd_false ?_ | refine GD_true ?_ | refine GM_true ?_ | refine GF_true ?_ | refine GD_false rfl ?_ | refine GM_false rfl ?_ | refine GF_false rfl ?_ | (apply and_st; · (repeat (first | exact stAll_nil | (refine st_evT H ?_ ?_; · (first | exact trivial | omega | assumption)) | (refine st_cmpt (by first | assumption | omega) ?_) | (refine st_cmpf (by first | assumption | omega) ?_) | (apply stAll_cons; · (exact el_sc (RS.is_all (H.at (i := 1) rfl)).d hfd))))) | (apply andS_in; · (simp only [pureQ, pureV, consO, cond_true, cond_false]; (repeat (first | exact stAll_nil | (refine st_evT H ?_ ?_; · (first | exact trivial | omega | assumption)) | (refine st_cmpt (by first | assumption | omega) ?_) | (refine st_cmpf (by first | assumption | omega) ?_) | (apply stAll_cons; · (exact el_sc (RS.is_all (H.at (i := 1) rfl)).d hfd)))))) | (refine D_mkT hJ H ?_; clear H; intro w H) | (refine D_ldR H rfl ?_) | (refine Fl_ldR H rfl ?_) | (apply D_ev; · (apply ev_build; (simp only [fillL, Value.cells, List.getElem?_cons_zero, List.getElem?_cons_succ, Nat.reduceLeDiff, and_self, if_true, Int.reduceToNat, Int.toNat_zero, Int.toNat_one, Nat.reduceSub, List.drop_succ_cons, List.drop_zero, List.take_succ_cons, List.take_zero, List.cons_append, List.nil_append, List.append_nil, List.set_cons_zero, List.set_cons_succ, Nat.zero_add, Nat.add_zero, Nat.reduceAdd, Nat.reduceMul, List.length_cons, List.length_nil]; rfl))) | (refine D_ldA H (by simp only [Int.reduceToNat, Int.toNat_zero, Int.toNat_one, Nat.reduceSub, List.drop_succ_cons, List.drop_zero, List.take_succ_cons, List.take_zero, List.cons_append, List.nil_append, List.append_nil, List.set_cons_zero, List.set_cons_succ, Nat.zero_add, Nat.add_zero, Nat.reduceAdd, Nat.reduceMul, List.length_cons, List.length_nil]; rfl) rfl ?_) | (apply D_ev; · exact el_sc (old_b H (by assumption)) rfl) | (apply Fl_ev; · exact el_sc (old_b H (by assumption)) rfl) | (refine D_pureV hJ H (hmay _ (RS.is_all (H.at (i := 1) rfl))) ?_; clear H; intro w H) | (refine D_pureV hJ H (shown_c) ?_; clear H; intro w H) | (refine D_makes hJ H (cap := []) (hread _ (RS.is_all (H.at (i := 1) rfl))) ?_; clear H; rintro v w ls ⟨lv, mv, rfl⟩ _ H; simp only [List.cons_append, List.nil_append] at H) | (refine D_pureV hJ H (hsec _ (RS.is_all (H.at (i := 1) rfl))) ?_; clear H; intro w H) | (refine D_pureV hJ H (full_c [97] (by decide)) ?_; clear H; intro w H) | (refine D_turn1 hJ H 1 rfl (cap := []) (hwr _) ?_; clear H; rintro v w r' ⟨S', rfl, ⟨ds', hS', hl'⟩, hf', ha', rfl⟩ H; simp only [List.set_cons_zero, List.set_cons_succ] at H) | (refine D_cong (by simp only [Go.Rv.g, dptr]; rfl) ?_) | (refine Cnd_cong (by simp only [Go.Rv.g]; rfl) ?_) | (refine Fl_cong (by simp only [Go.Rv.g, dptr]; rfl) ?_) | (refine GD_cong (by simp only [Go.Rv.g]; rfl) ?_) | fail)
  all_goals
    subst hS'
    have hfine' : RS.fine { S with ds := ds' } := (a_fine _).2 (by rw [ha', hSa]; exact AS.write_fine hfine _ _ _ _)
    have hdcap : 1 ≤ S.ds.length ∧ S.ds.length ≤ S.dcap ∧ 1 < S.dcap := by omega
    have hbad : (RS.tail { S with ds := ds' }).okB = false := RS.okB_f (RS.tail_bad hfine')
    have hcodeT : ∀ r o, code (RS.tail { S with ds := ds' }) r o = 1 := fun r o => by unfold code; rw [hbad]; rfl
    have hTf := RS.tail_fit hf'
    have hTl : (RS.tail { S with ds := ds' }).ds.length = S.ds.length - 1 := by simp [RS.tail, hl']
    obtain ⟨tv, htv⟩ : ∃ tv : Value, tv = .agg [.int .i64 S.G.cols, .int .i64 S.G.chunk, .int .i64 S.G.rows, .slice (some ⟨S.dg, S.doff + 1, none⟩) (S.ds.length - 1) (S.dcap - 1), .slice (some ⟨S.bg, 0, none⟩) S.built.length S.bcap].toArray := ⟨_, rfl⟩
    have hTv : (RS.tail { S with ds := ds' }).v = tv := by rw [htv]; unfold RS.v; rw [hTl]; rfl
    have hread2 : ∀ w, RS.is { S with ds := ds' } w → MakesC pg 17 [tv, .int .i64 0, .int .i64 0] [] w fun v ls => v = .tuple #[.slice none 0 0, .slice none 0 0, .int .i64 1] ∧ ls = [] := fun w h => by
      rw [← hTv]
      refine MakesC.mono (readrow_c _ 0 0 hTf (RS.tail_is h)) ?_
      rw [hcodeT]
      rintro v ls (⟨_, rfl, rfl⟩ | ⟨h1, _⟩ | ⟨h1, _⟩)
      · exact ⟨rfl, rfl⟩
      · cases h1
      · cases h1
    have hlost2 : ∀ w, RS.is { S with ds := ds' } w → PureC pg 22 [tv, .int .i64 0] w fun v _ => v = .tuple #[.slice none 0 0, .int .i64 1] := fun w h => by
      have := lost_bad _ 0 hTf (RS.tail_is h) (by rw [hcodeT]; decide)
      rwa [hcodeT, hTv] at this
    have hflush2 : ∀ w, RS.is { S with ds := ds' } w → PureC pg 19 [tv] w fun v _ => v = .int .i64 1 := fun w h => by
      have := flush_bad _ hTf (RS.tail_is h) hbad
      rwa [hTv] at this
    have hnf : ¬ (RS.tail { S with ds := ds' }).a.fine := fun h => RS.tail_bad hfine' ((a_fine _).2 h)
    have hTc : ∀ x, (RS.tail { S with ds := ds' }).a.wcode 0 0 0 x = 1 := fun x => by
      have : (RS.tail { S with ds := ds' }).a.code 0 0 = 1 := by rw [← code_a, hcodeT]
      unfold AS.wcode
      rw [this]; rfl
    have hTs : (RS.tail { S with ds := ds' }).a.small 1099511627775 := by
      intro d hd j
      have h1 : RS.a { S with ds := ds' } = S.a.write r o i (full [97]) := ha'
      have h2 : S.a.small 0 := by rw [hSa]; exact new_small
      have h3 := AS.write_small h2 r o i (full [97])
      rw [← h1] at h3
      refine Nat.le_trans (h3 d ?_ j) (by omega)
      obtain ⟨p, hp, rfl⟩ := a_mem.1 hd
      exact a_mem.2 ⟨p, List.mem_of_mem_drop hp, rfl⟩
    have hwr2 : ∀ w, TurnsC pg 13 [tv, .int .i64 0, .int .i64 0, .int .i64 0, str (full [])] [] w [.all (srs (RS.tail { S with ds := ds' }))] fun v ls => ∃ r', ls = [r'] ∧ ∃ S2 : RS, v = .int .i64 1 ∧ S2.v = tv ∧ S2.fit 116 ∧ ¬ S2.a.fine ∧ r' = .all (srs S2) := fun w => by
      have := write_a _ 0 0 0 (full []) (w0 := w) hTf (by rw [full_len]; omega) hTs
      rw [hTv] at this
      refine TurnsC.mono this ?_
      rintro v ls ⟨r', rfl, S2, rfl, ⟨ds2, rfl, hl2⟩, hf2, ha2, rfl⟩
      refine ⟨_, rfl, _, by rw [hTc], ?_, hf2, ?_, rfl⟩
      · rw [← hTv]; simp only [RS.v, hl2]
      · rw [ha2]
        unfold AS.write
        rw [if_pos (by rw [hTc]; decide)]
        exact hnf
    have hmay2 : ∀ (S2 : RS) w, S2.v = tv → S2.fit 116 → ¬ S2.a.fine → S2.is w → PureC pg 21 [tv] w fun v _ => v = .bool false := fun S2 w h1 h2 h3 h4 => by
      have := may_a S2 h2 h4
      rwa [h1, decide_eq_false h3] at this
    clear hread hsec hwr hmay
    subst htv
    refine D_ev (ev_tail hdcap) ?_
    repeat' (first | (refine D_evT H ?_ ?_; · (first | exact trivial | omega | assumption)) | (refine D_cmp ?_ ?_ <;> intro h_ <;> first | (exfalso; omega) | skip) | (refine D_boxL hJ H rfl ?_; clear H; intro w b H; simp only [List.cons_append, List.nil_append] at H) | (refine D_boxT hJ H ?_ ?_; (focus first | rfl | exact trivial); clear H; intro w b H; simp only [List.cons_append, List.nil_append] at H) | (refine D_allocL hJ H ?_; clear H; intro w b H; simp only [List.cons_append, List.nil_append] at H) | (refine D_mkSlc hJ H rfl ?_; clear H; intro w b H; simp only [List.cons_append, List.nil_append] at H) | (refine D_mkSlT hJ H ?_ ?_; (focus first | rfl | exact trivial); clear H; intro w b H; simp only [List.cons_append, List.nil_append] at H) | (refine D_appL hJ H ?_ ?_ ?_ ?_; (focus rfl); (focus omega); (focus omega); clear H; intro w b cap_b H) | (refine D_storeT hJ H rfl ?_ ?_; (focus first | rfl | exact trivial); clear H; intro w H) | (refine Dr_cur hJ H ?_; clear H; intro w H _) | (refine Fl_evT H ?_ ?_; · (first | exact trivial | omega | assumption)) | (refine Fl_cmp ?_ ?_ <;> intro h_ <;> first | (exfalso; omega) | skip) | refine Cnd_true ?_ | refine Cnd_false ?_ | refine GD_true ?_ | refine GM_true ?_ | refine GF_true ?_ | refine GD_false rfl ?_ | refine GM_false rfl ?_ | refine GF_false rfl ?_ | (apply and_st; · (repeat (first | exact stAll_nil | (refine st_evT H ?_ ?_; · (first | exact trivial | omega | assumption)) | (refine st_cmpt (by first | assumption | omega) ?_) | (refine st_cmpf (by first | assumption | omega) ?_)))) | (apply andS_in; · (simp only [pureQ, pureV, consO, cond_true, cond_false]; (repeat (first | exact stAll_nil | (refine st_evT H ?_ ?_; · (first | exact trivial | omega | assumption)) | (refine st_cmpt (by first | assumption | omega) ?_) | (refine st_cmpf (by first | assumption | omega) ?_))))) | (refine D_mkT hJ H ?_; clear H; intro w H) | (refine D_ldR H rfl ?_) | (refine Fl_ldR H rfl ?_) | (apply D_ev; · (apply ev_build; (simp only [fillL, Value.cells, List.getElem?_cons_zero, List.getElem?_cons_succ, Nat.reduceLeDiff, and_self, if_true, Int.reduceToNat, Int.toNat_zero, Int.toNat_one, Nat.reduceSub, List.drop_succ_cons, List.drop_zero, List.take_succ_cons, List.take_zero, List.cons_append, List.nil_append, List.append_nil, List.set_cons_zero, List.set_cons_succ, Nat.zero_add, Nat.add_zero, Nat.reduceAdd, Nat.reduceMul, List.length_cons, List.length_nil]; rfl))) | (refine D_ldA H (by simp only [Int.reduceToNat, Int.toNat_zero, Int.toNat_one, Nat.reduceSub, List.drop_succ_cons, List.drop_zero, List.take_succ_cons, List.take_zero, List.cons_append, List.nil_append, List.append_nil, List.set_cons_zero, List.set_cons_succ, Nat.zero_add, Nat.add_zero, Nat.reduceAdd, Nat.reduceMul, List.length_cons, List.length_nil]; rfl) rfl ?_) | (apply D_ev; · exact el_sc (old_b H (by assumption)) rfl) | (apply Fl_ev; · exact el_sc (old_b H (by assumption)) rfl) | (refine D_makes hJ H (cap := []) (hread2 _ (RS.is_all (H.at (i := 1) rfl))) ?_; clear H; rintro v w ls ⟨rfl, rfl⟩ _ H; simp only [List.append_nil] at H) | (refine D_pureV hJ H (hlost2 _ (RS.is_all (H.at (i := 1) rfl))) ?_; clear H; intro w H) | (refine D_pureV hJ H (hflush2 _ (RS.is_all (H.at (i := 1) rfl))) ?_; clear H; intro w H) | (refine D_pureV hJ H (full_c [] (by decide)) ?_; clear H; intro w H) | (refine D_pureV hJ H (hmay2 S2 _ hS2v hS2f hS2n (RS.is_all (H.at (i := 0) rfl))) ?_; clear H; intro w H) | (refine D_turn1 hJ (RS.tail_rs (H.perm (perm_at (i := 1) rfl))) 0 rfl (cap := []) (hwr2 _) ?_; clear H; rintro v w r' ⟨S2, rfl, hS2v, hS2f, hS2n, rfl⟩ H; simp only [List.set_cons_zero, List.eraseIdx_cons_succ, List.eraseIdx_cons_zero] at H) | (refine D_cong (by simp only [Go.Rv.g, dptr]; rfl) ?_) | (refine Cnd_cong (by simp only [Go.Rv.g]; rfl) ?_) | (refine Fl_cong (by simp only [Go.Rv.g, dptr]; rfl) ?_) | (refine GD_cong (by simp only [Go.Rv.g]; rfl) ?_) | fail)
    all_goals first
      | exact ⟨H.j, rfl⟩
      | skip
end Go.Proofs.YteemoolcphhkbaaGreat
