/- Part of the proof that YteemoolcphhkbaaGreat holds whatever the input: a text of contracts, laws and steps; no condition. -/
import Derived.Test.YteemoolcphhkbaaGreatRvU
set_option linter.all false
set_option autoImplicit false
namespace Go.Rv
open Go.RowKit
/-! ### A set of drives without addresses -/
structure AS where
  G : Geo
  ds : List (Option Drv)
  built : List Int
namespace AS
variable (A : AS)
def fine : Prop := A.G.may ∧ (A.ds.length : Int) = A.G.cols ∧ (A.built.length : Int) = A.G.cols ∧ ∀ d, some d ∈ A.ds → 4 + A.G.rows * A.G.chunk ≤ d.n
noncomputable instance : Decidable A.fine := Classical.propDecidable _
noncomputable def code (r o : Int) : Int := if ¬ A.fine then 1 else if r < 0 ∨ A.G.rows ≤ r ∨ o < 0 ∨ A.G.chunk ≤ o then 70 else 0
def live : Option Drv → Option Drv
  | some d => if d.dead then none else some d
  | none => none
/-- The drive of a column, if it is there. -/
def at' (c : Int) : Option Drv := match A.ds[c.toNat]? with
  | some d => live d
  | none => none
/-- The drive of a role, if it is not missing. -/
def roleD (r i : Int) : Option Drv := match A.ds[(A.G.colOf r i).toNat]?, A.built[(A.G.colOf r i).toNat]? with
  | some d, some b => if b ≤ r then none else live d
  | _, _ => none
def place (r o : Int) : Int := 4 + A.G.chunk * r + o
def roleR (r o i : Int) : Sec × Int := match A.roleD r i with
  | none => ([], 41)
  | some d => d.read (A.place r o)
noncomputable def wcode (r o i : Int) (x : Sec) : Int :=
  if A.code r o ≠ 0 then A.code r o else if i < 0 ∨ A.G.cols ≤ i then 70 else match A.at' (A.G.colOf r i) with
    | none => 40
    | some d => d.wcode (A.place r o) x
def put (c : Nat) (d : Option Drv) : AS := { A with ds := A.ds.set c d }
noncomputable def write (r o i : Int) (x : Sec) : AS :=
  if A.wcode r o i x ≠ 0 then A else match A.at' (A.G.colOf r i) with
    | none => A
    | some d => A.put (A.G.colOf r i).toNat (some (d.write (A.place r o) x))
def new (G : Geo) (m : Nat) : AS := ⟨G, List.replicate G.cols.toNat (some (Drv.fresh m)), List.replicate G.cols.toNat G.rows⟩
def nc : Nat := A.G.cols.toNat
def small (N : Nat) : Prop := ∀ d, some d ∈ A.ds → ∀ j, (d.wr j).length ≤ N
end AS
def RS.a (S : RS) : AS := ⟨S.G, S.ds.map (Option.map DP.D), S.built⟩
theorem a_len (S : RS) : S.a.ds.length = S.ds.length := by simp [RS.a]
theorem a_at (S : RS) (c : Nat) : S.a.ds[c]? = (S.ds[c]?).map (Option.map DP.D) := by simp [RS.a]
theorem a_mem {S : RS} {d : Drv} : some d ∈ S.a.ds ↔ ∃ p, some p ∈ S.ds ∧ p.D = d := by
  simp only [RS.a, List.mem_map, Option.map_eq_some_iff]
  constructor
  · rintro ⟨q, h1, p, rfl, h2⟩; exact ⟨p, h1, h2⟩
  · rintro ⟨p, h1, h2⟩; exact ⟨some p, h1, p, rfl, h2⟩
theorem a_fine (S : RS) : S.fine ↔ S.a.fine := by
  unfold RS.fine AS.fine
  rw [a_len]
  constructor
  · rintro ⟨h1, h2, h3, h4⟩
    exact ⟨h1, h2, h3, fun d hd => by obtain ⟨p, hp, rfl⟩ := a_mem.1 hd; exact h4 p hp⟩
  · rintro ⟨h1, h2, h3, h4⟩
    exact ⟨h1, h2, h3, fun p hp => h4 p.D (a_mem.2 ⟨p, hp, rfl⟩)⟩
theorem a_okB (S : RS) : S.okB = decide S.a.fine := by
  by_cases h : S.fine
  · rw [RS.okB_t h, decide_eq_true ((a_fine S).1 h)]
  · rw [RS.okB_f h, decide_eq_false (fun h' => h ((a_fine S).2 h'))]
theorem a_put (S : RS) (c : Nat) (p : DP) : (S.put c p).a = S.a.put c (some p.D) := by
  simp [RS.a, RS.put, AS.put, List.map_set]
theorem a_new {S : RS} {G : Geo} {m : Nat} (hg : S.G = G) {ps : List DP} (hd : S.ds = ps.map some) (hl : (ps.length : Int) = G.cols) (hp : ∀ p ∈ ps, p.D = Drv.fresh m) (hb : S.built = List.replicate G.cols.toNat G.rows) : S.a = AS.new G m := by
  unfold RS.a AS.new
  rw [hg, hd, hb]
  congr 1
  rw [List.map_map]
  have : ps.length = G.cols.toNat := by omega
  rw [← this]
  clear hd hl hb this
  induction ps with
  | nil => rfl
  | cons p ps ih =>
    rw [List.length_cons, List.replicate_succ, List.map_cons, ih fun q hq => hp q (List.mem_cons_of_mem _ hq)]
    simp [hp p (List.mem_cons_self ..)]
/-! Facts of new sets -/
theorem fresh_n (m : Nat) : (Drv.fresh m).n = m := by simp [Drv.fresh, Drv.n]
theorem fresh_may (m : Nat) (i : Int) : (Drv.fresh m).may i = if i < 0 ∨ (m : Int) ≤ i then 70 else 0 := by
  unfold Drv.may
  rw [fresh_n]
  simp [Drv.fresh]
theorem AS.new_fine {G : Geo} {m : Nat} (hG : G.may) (hm : 4 + G.rows * G.chunk ≤ m) : (AS.new G m).fine := by
  have h := hG
  unfold Geo.may at h
  refine ⟨hG, ?_, ?_, fun d hd => ?_⟩
  · simp [AS.new]; omega
  · simp [AS.new]; omega
  · simp only [AS.new, List.mem_replicate] at hd
    have := hd.2
    cases this
    rw [fresh_n]; exact hm
end Go.Rv
namespace Go.Rv
theorem Geo.colOf_b (G : Geo) (h : G.may) (r i : Int) : 0 ≤ G.colOf r i ∧ G.colOf r i < G.cols := by
  have hb := G.first_b h r
  have h' := h
  unfold Geo.may at h'
  unfold Geo.colOf Geo.col
  split
  · exact ⟨Int.emod_nonneg _ (by omega), Int.emod_lt_of_pos _ (by omega)⟩
  · split
    · exact ⟨Int.emod_nonneg _ (by omega), Int.emod_lt_of_pos _ (by omega)⟩
    · exact hb
theorem fresh_read (m : Nat) (i : Int) (h : 0 ≤ i ∧ i < (m : Int)) : (Drv.fresh m).read i = (blank, 0) := by
  have h1 : (Drv.fresh m).may i = 0 := by rw [fresh_may, if_neg (by omega)]
  have h2 : (Drv.fresh m).safe[i.toNat]? = some blank := by
    simp only [Drv.fresh]
    rw [List.getElem?_replicate, if_pos (by omega)]
  unfold Drv.read
  rw [if_neg (by omega)]
  have h3 : (Drv.fresh m).sp i = false := rfl
  rw [h3]
  simp only [Bool.false_eq_true, if_false, Drv.val]
  rw [h2]
  rfl
theorem write_may (D : Drv) (i j : Int) (x : Sec) (hp : D.power = none) : (D.write i x).may j = D.may j := by
  unfold Drv.may
  have h1 : (D.write i x).dead = D.dead := rfl
  have h2 : (D.write i x).power = none := by simp [Drv.write, Drv.use, hp]
  have h3 : (D.write i x).n = D.n := rfl
  rw [h1, h2, h3, hp]
theorem write_read (D : Drv) (i j : Int) (x : Sec) (hp : D.power = none) (hm : D.may j = 0) : (D.write i x).read j = if j = i then (x, 0) else D.read j := by
  unfold Drv.read
  rw [write_may D i j x hp]
  simp only [hm, ne_eq, not_true_eq_false, if_false]
  by_cases h : j = i
  · subst h
    simp [Drv.write, Drv.upd, Drv.val]
  · have h1 : (D.write i x).sp j = D.sp j := by simp [Drv.write, Drv.upd, h]
    have h2 : (D.write i x).val j = D.val j := by simp [Drv.val, Drv.write, Drv.use, Drv.upd, h]
    rw [h1, h2, if_neg h]
namespace AS
variable {A : AS}
theorem code_ok {r o : Int} (h : A.code r o = 0) : A.fine ∧ (0 ≤ r ∧ r < A.G.rows) ∧ (0 ≤ o ∧ o < A.G.chunk) := by
  unfold code at h
  split at h
  · cases h
  · split at h
    · cases h
    · rename_i hf _
      exact ⟨Classical.not_not.1 hf, by omega, by omega⟩
theorem code_of (hf : A.fine) (r o : Int) : A.code r o = if r < 0 ∨ A.G.rows ≤ r ∨ o < 0 ∨ A.G.chunk ≤ o then 70 else 0 := by
  unfold code; rw [if_neg (by simpa using hf)]
theorem place_b (hf : A.fine) {r o : Int} (hr : 0 ≤ r ∧ r < A.G.rows) (ho : 0 ≤ o ∧ o < A.G.chunk) : 0 ≤ A.place r o ∧ A.place r o < 4 + A.G.rows * A.G.chunk := by
  have h := hf.1
  unfold Geo.may at h
  unfold place
  have h1 : 0 ≤ A.G.chunk * r := Int.mul_nonneg (by omega) (by omega)
  have h2 : A.G.chunk * r ≤ A.G.chunk * (A.G.rows - 1) := Int.mul_le_mul_of_nonneg_left (by omega) (by omega)
  have h3 : A.G.chunk * (A.G.rows - 1) = A.G.rows * A.G.chunk - A.G.chunk := by rw [Int.mul_sub, Int.mul_one, Int.mul_comm]
  omega
theorem put_fine (hf : A.fine) {c : Nat} {d : Option Drv} (hd : ∀ d', d = some d' → 4 + A.G.rows * A.G.chunk ≤ d'.n) : (A.put c d).fine := by
  refine ⟨hf.1, by simpa [put] using hf.2.1, hf.2.2.1, fun d' h => ?_⟩
  simp only [put] at h
  rcases List.mem_or_eq_of_mem_set h with h | h
  · exact hf.2.2.2 d' h
  · exact hd d' h.symm
theorem at_mem {c : Int} {d : Drv} (h : A.at' c = some d) : some d ∈ A.ds ∧ d.dead = false ∧ A.ds[c.toNat]? = some (some d) := by
  unfold at' at h
  split at h
  · rename_i e he
    cases e with
    | none => cases h
    | some d' =>
      simp only [live] at h
      split at h
      · cases h
      · cases h
        exact ⟨List.mem_of_getElem? he, by simp_all, he⟩
  · cases h
theorem write_fine (hf : A.fine) (r o i : Int) (x : Sec) : (A.write r o i x).fine := by
  unfold write
  split
  · exact hf
  · split
    · exact hf
    · rename_i d hd
      refine put_fine hf fun d' h => ?_
      cases h
      exact hf.2.2.2 d (at_mem hd).1
theorem write_G (r o i : Int) (x : Sec) : (A.write r o i x).G = A.G := by
  unfold write
  split
  · rfl
  · split <;> rfl
theorem write_built (r o i : Int) (x : Sec) : (A.write r o i x).built = A.built := by
  unfold write
  split
  · rfl
  · split <;> rfl
theorem write_len (r o i : Int) (x : Sec) : (A.write r o i x).ds.length = A.ds.length := by
  unfold write
  split
  · rfl
  · split
    · rfl
    · simp [put]
theorem write_small {N : Nat} (h : A.small N) (r o i : Int) (x : Sec) : (A.write r o i x).small (N + 1) := by
  unfold write
  split
  · exact fun d hd j => Nat.le_succ_of_le (h d hd j)
  · split
    · exact fun d hd j => Nat.le_succ_of_le (h d hd j)
    · rename_i d hd
      intro d' hd' j
      rcases List.mem_or_eq_of_mem_set hd' with h' | h'
      · exact Nat.le_succ_of_le (h d' h' j)
      · cases h'
        have := h d (at_mem hd).1 j
        simp only [Drv.write, Drv.upd]
        split
        · rename_i e; subst e; simp; exact this
        · exact Nat.le_succ_of_le this
end AS
/-- A set without its first drive. -/
def RS.tail (S : RS) : RS := { S with ds := S.ds.drop 1, doff := S.doff + 1, dcap := S.dcap - 1 }
theorem RS.tail_is {S : RS} {w : World} (h : S.is w) : S.tail.is w := ⟨h.d, h.b, fun p hp => h.r p (List.mem_of_mem_drop hp)⟩
theorem RS.tail_fit {S : RS} {te : TypeId} (h : S.fit te) : S.tail.fit te := by
  refine ⟨fun j d hj => ?_, h.b, fun p hp => h.good p (List.mem_of_mem_drop hp), ?_⟩
  · simp only [RS.tail, List.getElem?_drop] at hj
    have := h.d _ _ hj
    simp only [RS.tail]
    rw [show S.doff + 1 + j = S.doff + (1 + j) by omega]; exact this
  · have := h.small
    simp only [RS.tail, List.length_drop]
    omega
theorem RS.tail_rs {S : RS} {dt bt : TypeId} {J : World → Prop} {U : Nat → Prop} {w : World} {l : List Rs} (H : Cur J U w (Rs.all (S.rs dt bt) :: l)) : Cur J U w (Rs.all (S.tail.rs dt bt) :: l) := by
  refine Cur.close (H.open.drop (List.Sublist.append_right ?_ _))
  unfold RS.rs RS.tail
  simp only
  refine ((List.Sublist.map DP.ro (List.drop_sublist 1 S.ds)).cons₂ _).cons₂ _
theorem RS.tail_bad {S : RS} (h : S.fine) : ¬ S.tail.fine := by
  intro h2
  have h3 := h2.2.1
  have h4 := h.2.1
  have h5 := h.1
  unfold Geo.may at h5
  simp only [RS.tail, List.length_drop] at h3
  omega
theorem ev_tail {P : Program} {w : World} {t e : TypeId} {m n c : Nat} {kl : IntKind} {b o y : Nat} {z : Value} [hs : Sl P t e m y z] (h0 : 1 ≤ n ∧ n ≤ c ∧ 1 < c) :
    Ev P (.slice t (.slice (some ⟨b, o, none⟩) n c) (some (.int kl 1)) none none) w (.slice (some ⟨b, o + m, none⟩) (n - 1) (c - 1)) := by
  have := ev_slice_l (P := P) (w := w) (t := t) (b := b) (o := o) (n := n) (c := c) (kl := kl) (i := 1) (by omega)
  rw [if_neg (by simp; omega)] at this
  simpa using this
/-! New sets -/
section
variable {G : Geo} {m : Nat}
theorem new_at (hG : G.may) (r i : Int) : (AS.new G m).at' (G.colOf r i) = some (Drv.fresh m) := by
  have h := G.colOf_b hG r i
  unfold AS.at' AS.new
  simp only
  rw [List.getElem?_replicate, if_pos (by omega)]
  rfl
theorem new_roleD (hG : G.may) {r : Int} (hr : r < G.rows) (i : Int) : (AS.new G m).roleD r i = some (Drv.fresh m) := by
  have h := G.colOf_b hG r i
  unfold AS.roleD AS.new
  simp only
  rw [List.getElem?_replicate, if_pos (by omega), List.getElem?_replicate, if_pos (by omega)]
  simp only
  rw [if_neg (by omega)]
  rfl
theorem new_roleR (hG : G.may) (hm : 4 + G.rows * G.chunk ≤ m) {r o : Int} (hr : 0 ≤ r ∧ r < G.rows) (ho : 0 ≤ o ∧ o < G.chunk) (i : Int) : (AS.new G m).roleR r o i = (blank, 0) := by
  unfold AS.roleR
  rw [new_roleD hG hr.2]
  have := AS.place_b (AS.new_fine hG hm) hr ho
  exact fresh_read m _ ⟨this.1, by have := this.2; show (AS.new G m).place r o < m; simp only [AS.new] at *; omega⟩
theorem new_wcode (hG : G.may) (hm : 4 + G.rows * G.chunk ≤ m) (r o i : Int) {x : Sec} (hx : x.length = 64) : (AS.new G m).wcode r o i x = if r < 0 ∨ G.rows ≤ r ∨ o < 0 ∨ G.chunk ≤ o ∨ i < 0 ∨ G.cols ≤ i then 70 else 0 := by
  have hf := AS.new_fine hG hm
  have hc := AS.code_of hf r o
  have e1 : (AS.new G m).G = G := rfl
  unfold AS.wcode
  rw [hc, e1, new_at hG]
  by_cases h : r < 0 ∨ G.rows ≤ r ∨ o < 0 ∨ G.chunk ≤ o
  · rw [if_pos h, if_pos (by omega), if_pos (by omega)]
  · rw [if_neg h, if_neg (by omega)]
    by_cases h2 : i < 0 ∨ G.cols ≤ i
    · rw [if_pos h2, if_pos (by omega)]
    · rw [if_neg h2, if_neg (by omega)]
      have := AS.place_b hf (r := r) (o := o) (by rw [e1]; omega) (by rw [e1]; omega)
      simp only [Drv.wcode, fresh_may]
      rw [if_neg (by rw [e1] at this; omega)]
      simp [hx]
theorem new_small : (AS.new G m).small 0 := by
  intro d hd j
  simp only [AS.new, List.mem_replicate] at hd
  have := hd.2
  cases this
  exact Nat.le_refl _
/-- What is read of a role that has been written. -/
theorem new_write_same (hG : G.may) (hm : 4 + G.rows * G.chunk ≤ m) {r o i : Int} (hr : 0 ≤ r ∧ r < G.rows) (ho : 0 ≤ o ∧ o < G.chunk) (hi : 0 ≤ i ∧ i < G.cols) {x : Sec} (hx : x.length = 64) :
    ((AS.new G m).write r o i x).roleR r o i = (x, 0) := by
  have hw := new_wcode hG hm r o i hx
  rw [if_neg (by omega)] at hw
  have h := G.colOf_b hG r i
  have hpl := AS.place_b (AS.new_fine hG hm) hr ho
  have e1 : (AS.new G m).G = G := rfl
  have e : (AS.new G m).write r o i x = (AS.new G m).put (G.colOf r i).toNat (some ((Drv.fresh m).write ((AS.new G m).place r o) x)) := by
    unfold AS.write
    rw [if_neg (by omega), e1, new_at hG]
  rw [e]
  have hD : ((AS.new G m).put (G.colOf r i).toNat (some ((Drv.fresh m).write ((AS.new G m).place r o) x))).roleD r i = some ((Drv.fresh m).write ((AS.new G m).place r o) x) := by
    unfold AS.roleD AS.put AS.new
    simp only
    rw [List.getElem?_set_self (by simp; omega), List.getElem?_replicate, if_pos (by omega)]
    simp only
    rw [if_neg (by omega)]
    rfl
  unfold AS.roleR
  rw [hD]
  show ((Drv.fresh m).write ((AS.new G m).place r o) x).read ((AS.new G m).place r o) = _
  have hpl2 := hpl.2
  rw [e1] at hpl2
  rw [write_read _ _ _ _ rfl (by rw [fresh_may, if_neg (by omega)]), if_pos rfl]
end
end Go.Rv
