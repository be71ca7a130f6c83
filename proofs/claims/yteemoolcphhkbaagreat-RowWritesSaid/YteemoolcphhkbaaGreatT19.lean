/- Part of the proof that YteemoolcphhkbaaGreat holds whatever the input: a text of contracts, laws and steps; no condition. -/
import Derived.Test.YteemoolcphhkbaaGreatT18
import Derived.Test.YteemoolcphhkbaaGreatSh
import Derived.Lib.SlKeysI
set_option linter.all false
set_option autoImplicit false
namespace Go.Proofs.YteemoolcphhkbaaGreat
open Go Go.Rv Go.RowKit
/-- All ints that an iterator hands on. -/
theorem appendseq_c {f : FuncId} {cap : List Value} [hf : Fo pg f] {Kx : World → Prop} {next : List Int → List Value → List Int → Prop} {fin : List Int → Prop} {N : Nat} {w0 : World}
    (hit : IterC pg f cap Kx [] next fin [] List.length) (hKx : ∀ w, Below w0.heap.size w0 w → Kx w) (hnext : ∀ s x s', next s x s' → ∃ y, x = [.int .i64 y] ∧ s' = s ++ [y] ∧ s'.length ≤ N) (hN : N < 4294967296) :
    MakesC pg 133 [.slice none 0 0, .func (.func f) #[] cap.toArray] [] w0 fun v ls => ∃ s : List Int, fin s ∧ s.length ≤ N ∧ ls = [.s v 3 1 s.length (ints s)] := by
  show Calls pg _ #[.slice none 0 0, .func (.func f) #[] cap.toArray] w0 _
  refine l133 ?_
  unfold c133
  have hJ := jst_below w0; have H : Cur (Below w0.heap.size w0) (w0.heap.size ≤ ·) w0 [] := Cur.nil (Below.refl _ w0)
  (repeat' (first | (refine D_evT H ?_ ?_; · (first | exact trivial | omega | assumption)) | (refine D_cmp ?_ ?_ <;> intro h_ <;> first | (exfalso; omega) | skip) | (refine D_storeT hJ H rfl ?_ ?_; (focus first | rfl | exact trivial); clear H; intro w H) | (refine Dr_cur hJ H ?_; clear H; intro w H _) | (refine Fl_evT H ?_ ?_; · (first | exact trivial | omega | assumption)) | (refine Fl_cmp ?_ ?_ <;> intro h_ <;> first | (exfalso; omega) | skip) | refine Cnd_true ?_ | refine Cnd_false ?_ | refine GD_true ?_ | refine GM_true ?_ | refine GF_true ?_ | refine GD_false rfl ?_ | refine GM_false rfl ?_ | refine GF_false rfl ?_ | (apply and_st; · (repeat (first | exact stAll_nil | (refine st_evT H ?_ ?_; · (first | exact trivial | omega | assumption)) | (refine st_cmpt (by first | assumption | omega) ?_) | (refine st_cmpf (by first | assumption | omega) ?_)))) | (apply andS_in; · (simp only [pureQ, pureV, consO, cond_true, cond_false]; (repeat (first | exact stAll_nil | (refine st_evT H ?_ ?_; · (first | exact trivial | omega | assumption)) | (refine st_cmpt (by first | assumption | omega) ?_) | (refine st_cmpf (by first | assumption | omega) ?_))))) | (refine D_mkT hJ H ?_; clear H; intro w H) | (refine D_ldR H rfl ?_) | (refine Fl_ldR H rfl ?_) | (apply D_ev; · (apply ev_build; (simp only [fillL, Value.cells, List.getElem?_cons_zero, List.getElem?_cons_succ, Nat.reduceLeDiff, and_self, if_true, Int.reduceToNat, Int.toNat_zero, Int.toNat_one, Nat.reduceSub, List.drop_succ_cons, List.drop_zero, List.take_succ_cons, List.take_zero, List.cons_append, List.nil_append, List.append_nil, List.set_cons_zero, List.set_cons_succ, Nat.zero_add, Nat.add_zero, Nat.reduceAdd, Nat.reduceMul, List.length_cons, List.length_nil]; rfl))) | (refine D_ldA H (by simp only [Int.reduceToNat, Int.toNat_zero, Int.toNat_one, Nat.reduceSub, List.drop_succ_cons, List.drop_zero, List.take_succ_cons, List.take_zero, List.cons_append, List.nil_append, List.append_nil, List.set_cons_zero, List.set_cons_succ, Nat.zero_add, Nat.add_zero, Nat.reduceAdd, Nat.reduceMul, List.length_cons, List.length_nil]; rfl) rfl ?_) | (apply D_ev; · exact el_sc (old_b H (by assumption)) rfl) | (apply Fl_ev; · exact el_sc (old_b H (by assumption)) rfl) | (refine D_cong (by simp only [Go.Rv.g, dptr]; rfl) ?_) | (refine Cnd_cong (by simp only [Go.Rv.g]; rfl) ?_) | (refine Fl_cong (by simp only [Go.Rv.g, dptr]; rfl) ?_) | (refine GD_cong (by simp only [Go.Rv.g]; rfl) ?_) | fail))
  (first | (refine D_boxL hJ H rfl ?_; clear H; intro w b1 H; simp only [List.cons_append, List.nil_append] at H) | (refine D_boxT hJ H ?_ ?_; (focus first | rfl | exact trivial); clear H; intro w b1 H; simp only [List.cons_append, List.nil_append] at H) | (refine D_allocL hJ H ?_; clear H; intro w b1 H; simp only [List.cons_append, List.nil_append] at H) | (refine D_mkSlc hJ H rfl ?_; clear H; intro w b1 H; simp only [List.cons_append, List.nil_append] at H) | (refine D_mkSlT hJ H ?_ ?_; (focus first | rfl | exact trivial); clear H; intro w b1 H; simp only [List.cons_append, List.nil_append] at H) | (refine D_appL hJ H ?_ ?_ ?_ ?_; (focus rfl); (focus omega); (focus omega); clear H; intro w b1 cap_b1 H))
  have H1 := H.nilS 3 1
  have H3 : Cur (Below w0.heap.size w0) (w0.heap.size ≤ ·) w ([] ++ [.b b1 (.cells [.slice none 0 0].toArray 28), .s (.slice none 0 0) 3 1 0 []] ++ []) := H1
  clear H H1
  refine D_RF hJ H3 hit hKx (fun s x s' h => by obtain ⟨y, rfl, _⟩ := hnext s x s' h; rfl)
    (fun s ls => s.length ≤ N ∧ ∃ v, ls = [.b b1 (.cells [v].toArray 28), .s v 3 1 s.length (ints s)]) (fun _ _ => False) N (fun s ls h => h.1) ⟨Nat.zero_le _, _, rfl⟩ ?_ ?_ ?_
  · clear H3 hJ
    rintro J U w s x s' ls lb rc K hJ hJJ hx ⟨hs, v, rfl⟩ H hK hS
    obtain ⟨y, rfl, rfl, hl⟩ := hnext _ _ _ hx
    simp only [Go.Rv.g, List.cons_append, List.nil_append] at *
    have hl' : s.length + 1 ≤ N := by simpa using hl
    repeat' (first | (refine D_evT H ?_ ?_; · (first | exact trivial | omega | assumption)) | (refine D_cmp ?_ ?_ <;> intro h_ <;> first | (exfalso; omega) | skip) | (refine D_boxL hJ H rfl ?_; clear H; intro w b H; simp only [List.cons_append, List.nil_append] at H) | (refine D_boxT hJ H ?_ ?_; (focus first | rfl | exact trivial); clear H; intro w b H; simp only [List.cons_append, List.nil_append] at H) | (refine D_allocL hJ H ?_; clear H; intro w b H; simp only [List.cons_append, List.nil_append] at H) | (refine D_mkSlc hJ H rfl ?_; clear H; intro w b H; simp only [List.cons_append, List.nil_append] at H) | (refine D_mkSlT hJ H ?_ ?_; (focus first | rfl | exact trivial); clear H; intro w b H; simp only [List.cons_append, List.nil_append] at H) | (refine D_appL hJ H ?_ ?_ ?_ ?_; (focus rfl); (focus omega); (focus omega); clear H; intro w b cap_b H) | (refine D_storeT hJ H rfl ?_ ?_; (focus first | rfl | exact trivial); clear H; intro w H) | (refine Dr_cur hJ H ?_; clear H; intro w H _) | (refine Fl_evT H ?_ ?_; · (first | exact trivial | omega | assumption)) | (refine Fl_cmp ?_ ?_ <;> intro h_ <;> first | (exfalso; omega) | skip) | refine Cnd_true ?_ | refine Cnd_false ?_ | refine GD_true ?_ | refine GM_true ?_ | refine GF_true ?_ | refine GD_false rfl ?_ | refine GM_false rfl ?_ | refine GF_false rfl ?_ | (apply and_st; · (repeat (first | exact stAll_nil | (refine st_evT H ?_ ?_; · (first | exact trivial | omega | assumption)) | (refine st_cmpt (by first | assumption | omega) ?_) | (refine st_cmpf (by first | assumption | omega) ?_)))) | (apply andS_in; · (simp only [pureQ, pureV, consO, cond_true, cond_false]; (repeat (first | exact stAll_nil | (refine st_evT H ?_ ?_; · (first | exact trivial | omega | assumption)) | (refine st_cmpt (by first | assumption | omega) ?_) | (refine st_cmpf (by first | assumption | omega) ?_))))) | (refine D_mkT hJ H ?_; clear H; intro w H) | (refine D_ldR H rfl ?_) | (refine Fl_ldR H rfl ?_) | (apply D_ev; · (apply ev_build; (simp only [fillL, Value.cells, List.getElem?_cons_zero, List.getElem?_cons_succ, Nat.reduceLeDiff, and_self, if_true, Int.reduceToNat, Int.toNat_zero, Int.toNat_one, Nat.reduceSub, List.drop_succ_cons, List.drop_zero, List.take_succ_cons, List.take_zero, List.cons_append, List.nil_append, List.append_nil, List.set_cons_zero, List.set_cons_succ, Nat.zero_add, Nat.add_zero, Nat.reduceAdd, Nat.reduceMul, List.length_cons, List.length_nil]; rfl))) | (refine D_ldA H (by simp only [Int.reduceToNat, Int.toNat_zero, Int.toNat_one, Nat.reduceSub, List.drop_succ_cons, List.drop_zero, List.take_succ_cons, List.take_zero, List.cons_append, List.nil_append, List.append_nil, List.set_cons_zero, List.set_cons_succ, Nat.zero_add, Nat.add_zero, Nat.reduceAdd, Nat.reduceMul, List.length_cons, List.length_nil]; rfl) rfl ?_) | (apply D_ev; · exact el_sc (old_b H (by assumption)) rfl) | (apply Fl_ev; · exact el_sc (old_b H (by assumption)) rfl) | (refine D_cong (by simp only [Go.Rv.g, dptr]; rfl) ?_) | (refine Cnd_cong (by simp only [Go.Rv.g]; rfl) ?_) | (refine Fl_cong (by simp only [Go.Rv.g, dptr]; rfl) ?_) | (refine GD_cong (by simp only [Go.Rv.g]; rfl) ?_) | fail)
    rw [ints_app] at H
    exact hK _ _ ⟨hl, _, rfl⟩ (H.drop (by rw [List.length_append, List.length_singleton]; (repeat (first | exact List.nil_sublist _ | exact List.Sublist.refl _ | apply List.Sublist.cons₂ | apply List.Sublist.cons))))
  · clear H3
    rintro w d ls' s hfin ⟨hs, v, rfl⟩ H
    refine JK_n ?_
    simp only [List.cons_append, List.nil_append, List.append_nil] at H
    repeat' (first | (refine D_evT H ?_ ?_; · (first | exact trivial | omega | assumption)) | (refine D_cmp ?_ ?_ <;> intro h_ <;> first | (exfalso; omega) | skip) | (refine D_boxL hJ H rfl ?_; clear H; intro w b H; simp only [List.cons_append, List.nil_append] at H) | (refine D_boxT hJ H ?_ ?_; (focus first | rfl | exact trivial); clear H; intro w b H; simp only [List.cons_append, List.nil_append] at H) | (refine D_allocL hJ H ?_; clear H; intro w b H; simp only [List.cons_append, List.nil_append] at H) | (refine D_mkSlc hJ H rfl ?_; clear H; intro w b H; simp only [List.cons_append, List.nil_append] at H) | (refine D_mkSlT hJ H ?_ ?_; (focus first | rfl | exact trivial); clear H; intro w b H; simp only [List.cons_append, List.nil_append] at H) | (refine D_appL hJ H ?_ ?_ ?_ ?_; (focus rfl); (focus omega); (focus omega); clear H; intro w b cap_b H) | (refine D_storeT hJ H rfl ?_ ?_; (focus first | rfl | exact trivial); clear H; intro w H) | (refine Dr_cur hJ H ?_; clear H; intro w H _) | (refine Fl_evT H ?_ ?_; · (first | exact trivial | omega | assumption)) | (refine Fl_cmp ?_ ?_ <;> intro h_ <;> first | (exfalso; omega) | skip) | refine Cnd_true ?_ | refine Cnd_false ?_ | refine GD_true ?_ | refine GM_true ?_ | refine GF_true ?_ | refine GD_false rfl ?_ | refine GM_false rfl ?_ | refine GF_false rfl ?_ | (apply and_st; · (repeat (first | exact stAll_nil | (refine st_evT H ?_ ?_; · (first | exact trivial | omega | assumption)) | (refine st_cmpt (by first | assumption | omega) ?_) | (refine st_cmpf (by first | assumption | omega) ?_)))) | (apply andS_in; · (simp only [pureQ, pureV, consO, cond_true, cond_false]; (repeat (first | exact stAll_nil | (refine st_evT H ?_ ?_; · (first | exact trivial | omega | assumption)) | (refine st_cmpt (by first | assumption | omega) ?_) | (refine st_cmpf (by first | assumption | omega) ?_))))) | (refine D_mkT hJ H ?_; clear H; intro w H) | (refine D_ldR H rfl ?_) | (refine Fl_ldR H rfl ?_) | (apply D_ev; · (apply ev_build; (simp only [fillL, Value.cells, List.getElem?_cons_zero, List.getElem?_cons_succ, Nat.reduceLeDiff, and_self, if_true, Int.reduceToNat, Int.toNat_zero, Int.toNat_one, Nat.reduceSub, List.drop_succ_cons, List.drop_zero, List.take_succ_cons, List.take_zero, List.cons_append, List.nil_append, List.append_nil, List.set_cons_zero, List.set_cons_succ, Nat.zero_add, Nat.add_zero, Nat.reduceAdd, Nat.reduceMul, List.length_cons, List.length_nil]; rfl))) | (refine D_ldA H (by simp only [Int.reduceToNat, Int.toNat_zero, Int.toNat_one, Nat.reduceSub, List.drop_succ_cons, List.drop_zero, List.take_succ_cons, List.take_zero, List.cons_append, List.nil_append, List.append_nil, List.set_cons_zero, List.set_cons_succ, Nat.zero_add, Nat.add_zero, Nat.reduceAdd, Nat.reduceMul, List.length_cons, List.length_nil]; rfl) rfl ?_) | (apply D_ev; · exact el_sc (old_b H (by assumption)) rfl) | (apply Fl_ev; · exact el_sc (old_b H (by assumption)) rfl) | (refine D_cong (by simp only [Go.Rv.g, dptr]; rfl) ?_) | (refine Cnd_cong (by simp only [Go.Rv.g]; rfl) ?_) | (refine Fl_cong (by simp only [Go.Rv.g, dptr]; rfl) ?_) | (refine GD_cong (by simp only [Go.Rv.g]; rfl) ?_) | fail)
    exact ⟨_, ⟨s, hfin, hs, rfl⟩, H.drop (by (repeat (first | exact List.nil_sublist _ | exact List.Sublist.refl _ | apply List.Sublist.cons₂ | apply List.Sublist.cons)))⟩
  · rintro w d j ls' hF H
    exact hF.elim
theorem collect_c {f : FuncId} {cap : List Value} [hf : Fo pg f] {Kx : World → Prop} {next : List Int → List Value → List Int → Prop} {fin : List Int → Prop} {N : Nat} {w0 : World}
    (hit : IterC pg f cap Kx [] next fin [] List.length) (hKx : ∀ w, Below w0.heap.size w0 w → Kx w) (hnext : ∀ s x s', next s x s' → ∃ y, x = [.int .i64 y] ∧ s' = s ++ [y] ∧ s'.length ≤ N) (hN : N < 4294967296) :
    MakesC pg 110 [.func (.func f) #[] cap.toArray] [] w0 fun v ls => ∃ s : List Int, fin s ∧ s.length ≤ N ∧ ls = [.s v 3 1 s.length (ints s)] := by
  show Calls pg _ #[.func (.func f) #[] cap.toArray] w0 _
  refine l110 ?_
  unfold c110
  have hJ := jst_below w0; have H : Cur (Below w0.heap.size w0) (w0.heap.size ≤ ·) w0 [] := Cur.nil (Below.refl _ w0)
  refine D_makes hJ H (cap := []) (appendseq_c hit hKx hnext hN) ?_
  clear H
  rintro v w ls ⟨s, h1, h2, rfl⟩ _ H
  exact ⟨_, ⟨s, h1, h2, rfl⟩, H⟩
abbrev sortI (s : List Int) : List Int := s.mergeSort fun x y => decide (x ≤ y)
theorem sort_c {v : Value} {s : List Int} {w0 : World} (hs : s.length < 4294967296) :
    TurnsC pg 111 [v] [] w0 [.s v 3 1 s.length (ints s)] fun _ ls => ls = [.s v 3 1 s.length (ints (sortI s))] := by
  intro J U hJ H
  show Calls pg _ #[v] w0 _
  have h := H.at (i := 0) rfl
  rw [s_ok] at h
  obtain ⟨h1, ⟨rfl, h0⟩ | ⟨g, cap, cur, rfl, hg, hb, hnc, hcm, hcs, ht⟩⟩ := h
  · have e : s = [] := List.length_eq_zero_iff.1 h0
    subst e
    refine Calls.mono (Tryz.slices_Sort_int_none none 0 w0) fun en w' h => ?_
    obtain ⟨rfl, rfl⟩ := h
    exact ⟨_, rfl, by simpa [sortI] using H⟩
  · have ht' : cur.toList.take s.length = s.map encZ := by simpa [ints] using ht
    refine Calls.mono (Tryz.slices_Sort_int g 0 cap s w0 (holds_of_block_i hb ht') (Array.getElem?_eq_some_iff.1 hb).1 (by omega)) fun en w' h => ?_
    obtain ⟨rfl, n, os, rfl⟩ := h
    refine ⟨_, rfl, ?_⟩
    have := H.turn hJ (i := 0) (r' := .s (.slice (some ⟨g, 0, none⟩) s.length cap) 3 1 s.length (ints (sortI s))) rfl (grownBy_sorted_i (n := n) (os := os) (sortI s).toArray) (fun b hb' => by cases hb'; rw [s_foot]; rfl) ?_ (fun b hb' => .inl (by rw [s_foot] at *; exact hb'))
    · simpa using this
    · rw [s_ok]
      exact ownsRow_sorted_i (by simp [sortI, List.length_mergeSort]) hg hb hnc hcm hcs
theorem sorted_c {f : FuncId} {cap : List Value} [hf : Fo pg f] {Kx : World → Prop} {next : List Int → List Value → List Int → Prop} {fin : List Int → Prop} {N : Nat} {w0 : World}
    (hit : IterC pg f cap Kx [] next fin [] List.length) (hKx : ∀ w, Below w0.heap.size w0 w → Kx w) (hnext : ∀ s x s', next s x s' → ∃ y, x = [.int .i64 y] ∧ s' = s ++ [y] ∧ s'.length ≤ N) (hN : N < 4294967296) :
    MakesC pg 82 [.func (.func f) #[] cap.toArray] [] w0 fun v ls => ∃ s : List Int, fin s ∧ s.length ≤ N ∧ ls = [.s v 3 1 s.length (ints (sortI s))] := by
  show Calls pg _ #[.func (.func f) #[] cap.toArray] w0 _
  refine l82 ?_
  unfold c82
  have hJ := jst_below w0; have H : Cur (Below w0.heap.size w0) (w0.heap.size ≤ ·) w0 [] := Cur.nil (Below.refl _ w0)
  refine D_makes hJ H (cap := []) (collect_c hit hKx hnext hN) ?_
  clear H
  rintro v w ls ⟨s, h1, h2, rfl⟩ _ H
  rw [List.nil_append] at H
  refine D_turns hJ (cap := []) (l' := []) (by rw [List.append_nil]; exact H) (sort_c (by omega)) ?_
  clear H
  rintro v' w ls rfl H
  exact ⟨_, ⟨s, h1, h2, rfl⟩, by simpa using H⟩
end Go.Proofs.YteemoolcphhkbaaGreat
