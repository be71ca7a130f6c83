/- Part of the proof that YteemoolcphhkbaaGreat holds whatever the input: a text of contracts, laws and steps; no condition. -/
import Derived.Test.YteemoolcphhkbaaGreatRvS
set_option linter.all false
set_option autoImplicit false
namespace Go.Rv
open Go.RowKit
/-! ### The steps as instances: what an operation comes to is found by its form -/
/-- The n-th of a literal list. -/
class Nth (c : List Value) (i : Nat) (v : outParam Value) : Prop where
  out : c[i]? = some v
instance (priority := 200) {v : Value} {c : List Value} : Nth (v :: c) 0 v := ⟨rfl⟩
instance {v x : Value} {c : List Value} {i : Nat} [h : Nth c i v] : Nth (x :: c) (i + 1) v := ⟨by simpa using h.out⟩
/-- Some in a row of a literal list. -/
class Tk0 (c : List Value) (n : Nat) (cs : outParam (List Value)) : Prop where
  out : c.take n = cs ∧ cs.length = n
instance (priority := 200) {c : List Value} : Tk0 c 0 [] := ⟨by simp⟩
instance {x : Value} {c cs : List Value} {n : Nat} [h : Tk0 c n cs] : Tk0 (x :: c) (n + 1) (x :: cs) := ⟨by simp [h.out]⟩
class Tk (c : List Value) (o n : Nat) (cs : outParam (List Value)) : Prop where
  out : (c.drop o).take n = cs ∧ cs.length = n
instance (priority := 200) {c cs : List Value} {n : Nat} [h : Tk0 c n cs] : Tk c 0 n cs := ⟨by simpa using h.out⟩
instance {x : Value} {c cs : List Value} {o n : Nat} [h : Tk c o n cs] : Tk (x :: c) (o + 1) n cs := ⟨by simpa using h.out⟩
/-- A literal list with some written over. -/
class Spl (c : List Value) (o : Nat) (vs : List Value) (c' : outParam (List Value)) : Prop where
  out : c.take o ++ (vs ++ c.drop (o + vs.length)) = c' ∧ o + vs.length ≤ c.length
instance (priority := 200) {c : List Value} : Spl c 0 [] c := ⟨by simp⟩
instance {x v : Value} {c vs c' : List Value} [h : Spl c 0 vs c'] : Spl (x :: c) 0 (v :: vs) (v :: c') := ⟨by have := h.out; simp at *; exact this⟩
instance {x : Value} {c vs c' : List Value} {o : Nat} [h : Spl c o vs c'] : Spl (x :: c) (o + 1) vs (x :: c') := ⟨by
  have := h.out
  have e : o + 1 + vs.length = (o + vs.length) + 1 := by omega
  simp only [List.take_succ_cons, List.cons_append, e, List.drop_succ_cons, List.length_cons]
  exact ⟨by rw [this.1], by omega⟩⟩
/-- A value's cells. -/
class Cel (v : Value) (vs : outParam (List Value)) : Prop where
  out : v.cells = vs.toArray
instance {k : IntKind} {x : Int} : Cel (.int k x) [.int k x] := ⟨rfl⟩
instance {b : Bool} : Cel (.bool b) [.bool b] := ⟨rfl⟩
instance {s : List UInt8} : Cel (str s) [str s] := ⟨rfl⟩
instance {s : ByteArray} : Cel (.string s) [.string s] := ⟨rfl⟩
instance {a : Option Addr} : Cel (.pointer a) [.pointer a] := ⟨rfl⟩
instance {a : Option Addr} {n c : Nat} : Cel (.slice a n c) [.slice a n c] := ⟨rfl⟩
instance {m : Option Nat} : Cel (.map m) [.map m] := ⟨rfl⟩
instance {f : Fn} {a c : Array Value} : Cel (.func f a c) [.func f a c] := ⟨rfl⟩
instance : Cel .nilFunc [.nilFunc] := ⟨rfl⟩
instance : Cel .nilIface [.nilIface] := ⟨rfl⟩
instance {c : List Value} : Cel (.agg c.toArray) c := ⟨rfl⟩
/-- A block of the list. -/
class Fnd (l : List Rs) (b : Nat) (c : outParam (List Value)) (ty : outParam TypeId) : Prop where
  out : ∃ i : Nat, l[i]? = some (Rs.b b (.cells c.toArray ty))
instance (priority := 200) {l : List Rs} {b : Nat} {c : List Value} {ty : TypeId} : Fnd (.b b (.cells c.toArray ty) :: l) b c ty := ⟨0, rfl⟩
instance {r : Rs} {l : List Rs} {b : Nat} {c : List Value} {ty : TypeId} [h : Fnd l b c ty] : Fnd (r :: l) b c ty := ⟨by obtain ⟨i, h⟩ := h.out; exact ⟨i + 1, by simpa using h⟩⟩
/-- The list with another object in a block's place. -/
class SetB (l : List Rs) (b : Nat) (o : Obj) (o' : Obj) (l' : outParam (List Rs)) : Prop where
  out : ∃ i : Nat, l[i]? = some (Rs.b b o) ∧ l.set i (.b b o') = l'
instance (priority := 200) {l : List Rs} {b : Nat} {o o' : Obj} : SetB (.b b o :: l) b o o' (.b b o' :: l) := ⟨0, rfl, rfl⟩
instance {r : Rs} {l l' : List Rs} {b : Nat} {o o' : Obj} [h : SetB l b o o' l'] : SetB (r :: l) b o o' (r :: l') := ⟨by obtain ⟨i, h1, h2⟩ := h.out; exact ⟨i + 1, by simpa using h1, by simp [h2]⟩⟩
/-- A slice of one's own, by its value. -/
class FndS (l : List Rs) (sv : Value) (e : outParam TypeId) (sz n : outParam Nat) (xs : outParam (List Value)) : Prop where
  out : ∃ i : Nat, l[i]? = some (Rs.s sv e sz n xs)
instance (priority := 200) {l : List Rs} {sv : Value} {e : TypeId} {sz n : Nat} {xs : List Value} : FndS (.s sv e sz n xs :: l) sv e sz n xs := ⟨0, rfl⟩
instance {r : Rs} {l : List Rs} {sv : Value} {e : TypeId} {sz n : Nat} {xs : List Value} [h : FndS l sv e sz n xs] : FndS (r :: l) sv e sz n xs := ⟨by obtain ⟨i, h⟩ := h.out; exact ⟨i + 1, by simpa using h⟩⟩
class SetS (l : List Rs) (sv : Value) (r : Rs) (r' : Rs) (l' : outParam (List Rs)) : Prop where
  out : ∃ i : Nat, l[i]? = some r ∧ l.set i r' = l'
instance (priority := 200) {l : List Rs} {sv : Value} {e : TypeId} {sz n : Nat} {xs : List Value} {r' : Rs} : SetS (.s sv e sz n xs :: l) sv (.s sv e sz n xs) r' (r' :: l) := ⟨0, rfl, rfl⟩
instance {a r r' : Rs} {l l' : List Rs} {sv : Value} [h : SetS l sv r r' l'] : SetS (a :: l) sv r r' (a :: l') := ⟨by obtain ⟨i, h1, h2⟩ := h.out; exact ⟨i + 1, by simpa using h1, by simp [h2]⟩⟩
/-- What the rest of the world is known to hold. -/
class Kn (J : World → Prop) (b : Nat) (c : outParam (List Value)) : Prop where
  out : ∀ w, J w → BlkL w b c
/-- Either. -/
class Mem (J : World → Prop) (l : List Rs) (b : Nat) (c : outParam (List Value)) : Prop where
  out : ∀ U w, Cur J U w l → BlkL w b c
instance {J : World → Prop} {l : List Rs} {b : Nat} {c : List Value} {ty : TypeId} [h : Fnd l b c ty] : Mem J l b c := ⟨fun _ _ H => by obtain ⟨i, hi⟩ := h.out; exact own_l H hi⟩
instance (priority := 2000) {J : World → Prop} {l : List Rs} {b : Nat} {c : List Value} [h : Kn J b c] : Mem J l b c := ⟨fun _ w H => h.out w H.j⟩

class EvT (P : Program) (J : World → Prop) (l : List Rs) (o : VOp) (v : outParam Value) (side : outParam Prop) : Prop where
  out : ∀ U w, Cur J U w l → side → Ev P o w v
section
variable {P : Program} {J : World → Prop} {U : Nat → Prop} {w : World} {l : List Rs} {k : KV}
theorem D_evT (H : Cur J U w l) {o : VOp} {v : Value} {side : Prop} [h : EvT P J l o v side] (hs : side) (hk : k v w) : D P o k w := D_ev (h.out U w H hs) hk
theorem Fl_evT (H : Cur J U w l) {o : VOp} {v : Value} {side : Prop} [h : EvT P J l o v side] (hs : side) {k : Value → Prop} (hk : k v) : Fl P o w k := Fl_ev (h.out U w H hs) hk
theorem st_evT (H : Cur J U w l) {o : VOp} {v : Value} {side : Prop} {r : List (Option VOp × Value)} [h : EvT P J l o v side] (hs : side) (hl : StAll P r w) : StAll P ((some o, v) :: r) w := stAll_cons (h.out U w H hs) hl
instance {a : Addr} : EvT P J l (.nilck (.pointer (some a))) (.pointer (some a)) True := ⟨fun _ _ _ _ => ev_nilck⟩
instance (priority := 1100) {t : TypeId} {b i off : Nat} [h : Fa P t i off] : EvT P J l (.fa t (.pointer (some ⟨b, 0, none⟩)) i) (.pointer (some ⟨b, off, none⟩)) True := ⟨fun _ w _ _ => by have := ev_fa (P := P) (w := w) (t := t) (b := b) (o := 0) (i := i) (off := off); rw [Nat.zero_add] at this; exact this⟩
instance {t : TypeId} {b o i off : Nat} [h : Fa P t i off] : EvT P J l (.fa t (.pointer (some ⟨b, o, none⟩)) i) (.pointer (some ⟨b, o + off, none⟩)) True := ⟨fun _ _ _ _ => ev_fa⟩
instance {t : TypeId} {b o : Nat} {c : List Value} {v : Value} [Sc P t] [h : Mem J l b c] [hn : Nth c o v] : EvT P J l (.load t (.pointer (some ⟨b, o, none⟩))) v True := ⟨fun _ _ H _ => el_sc (h.out _ _ H) hn.out⟩
instance {t : TypeId} {b o n : Nat} {c cs : List Value} [Ag P t n] [h : Mem J l b c] [hn : Tk c o n cs] : EvT P J l (.load t (.pointer (some ⟨b, o, none⟩))) (.agg cs.toArray) True := ⟨fun _ _ H _ => el_ag (h.out _ _ H) hn.out.1 hn.out.2⟩
instance {vs : List Value} {i : Nat} {v : Value} [h : Nth vs i v] : EvT P J l (.ext (.tuple vs.toArray) i) v True := ⟨fun _ _ _ _ => ev_extL h.out⟩
instance {t ft : TypeId} {i off : Nat} {c : List Value} {v : Value} [Ft P t i off ft] [Sc P ft] [h : Nth c off v] : EvT P J l (.fld t (.agg c.toArray) i) v True := ⟨fun _ _ _ _ => ev_fld_L h.out⟩
instance {t ft : TypeId} {i off n : Nat} {c cs : List Value} [Ft P t i off ft] [Ag P ft n] [h : Tk c off n cs] : EvT P J l (.fld t (.agg c.toArray) i) (.agg cs.toArray) True := ⟨fun _ _ _ _ => ev_fld_agL h.out.1⟩
instance {t : TypeId} {x y : Int} : EvT P J l (.bin .add t (.int .i64 x) (.int .i64 y)) (.int .i64 (x + y)) (-9223372036854775808 ≤ x + y ∧ x + y ≤ 9223372036854775807) := ⟨fun _ _ _ h => ea_i64 h⟩
instance {t : TypeId} {x y : Int} : EvT P J l (.bin .sub t (.int .i64 x) (.int .i64 y)) (.int .i64 (x - y)) (-9223372036854775808 ≤ x - y ∧ x - y ≤ 9223372036854775807) := ⟨fun _ _ _ h => es_i64 h⟩
instance {t : TypeId} {x y : Int} : EvT P J l (.bin .mul t (.int .i64 x) (.int .i64 y)) (.int .i64 (x * y)) (-9223372036854775808 ≤ x * y ∧ x * y ≤ 9223372036854775807) := ⟨fun _ _ _ h => em_i64 h⟩
instance {t : TypeId} {x y : Int} : EvT P J l (.bin .quo t (.int .i64 x) (.int .i64 y)) (.int .i64 (x / y)) (0 ≤ x ∧ x ≤ 9223372036854775807 ∧ 0 < y) := ⟨fun _ _ _ h => eq_pos h⟩
instance {t : TypeId} {ik : IntKind} {x y : Int} : EvT P J l (.bin .rem t (.int ik x) (.int ik y)) (.int ik (x % y)) (0 ≤ x ∧ 0 < y) := ⟨fun _ _ _ h => er_pos h⟩
instance {t : TypeId} {a b : List UInt8} : EvT P J l (.bin .add t (str a) (str b)) (str (a ++ b)) (a.length + b.length ≤ 9223372036854775807) := ⟨fun _ _ _ h => ev_sadd h⟩
instance {t : TypeId} {a : Addr} [Ptr P t] : EvT P J l (.bin .eql t (.pointer (some a)) (.pointer none)) (.bool false) True := ⟨fun _ _ _ _ => ev_peq_s⟩
instance {t : TypeId} [Ptr P t] : EvT P J l (.bin .eql t (.pointer none) (.pointer none)) (.bool true) True := ⟨fun _ _ _ _ => ev_peq_n⟩
instance {t : TypeId} {a : Addr} [Ptr P t] : EvT P J l (.bin .neq t (.pointer (some a)) (.pointer none)) (.bool true) True := ⟨fun _ _ _ _ => ev_pne_s⟩
instance {t : TypeId} [Ptr P t] : EvT P J l (.bin .neq t (.pointer none) (.pointer none)) (.bool false) True := ⟨fun _ _ _ _ => ev_pne_n⟩
instance {t : TypeId} {a b c a' b' c' : Int} [E3 P t] : EvT P J l (.bin .eql t (.agg [.int .i64 a, .int .i64 b, .int .i64 c].toArray) (.agg [.int .i64 a', .int .i64 b', .int .i64 c'].toArray)) (.bool (decide (a = a' ∧ b = b' ∧ c = c'))) True := ⟨fun _ _ _ _ => ev_eq3⟩
instance {b : Bool} : EvT P J l (.un .not (.bool b)) (.bool (!b)) True := ⟨fun _ _ _ _ => ev_not⟩
instance (priority := 1100) : EvT P J l (.un .not (.bool true)) (.bool false) True := ⟨fun _ _ _ _ => ev_not⟩
instance (priority := 1100) : EvT P J l (.un .not (.bool false)) (.bool true) True := ⟨fun _ _ _ _ => ev_not⟩
instance {a b : Value} : EvT P J l (.pick (.bool true) a b) a True := ⟨fun _ _ _ _ => ev_pick_t⟩
instance {a b : Value} : EvT P J l (.pick (.bool false) a b) b True := ⟨fun _ _ _ _ => ev_pick_f⟩
instance {f : Fn} {a c : List Value} : EvT P J l (.mkFn f a c) (.func f a.toArray c.toArray) True := ⟨fun _ _ _ _ => ev_mkFn⟩
instance {t ty : TypeId} {s : List UInt8} [Str P t] : EvT P J l (.bi .len #[t] ty [str s]) (.int .i64 s.length) True := ⟨fun _ _ _ _ => ev_slen⟩
instance (priority := 1100) {t e ty : TypeId} {n c m y : Nat} {z : Value} {a : Option Addr} [Sl P t e m y z] : EvT P J l (.bi .len #[t] ty [.slice a n c]) (.int .i64 n) True := ⟨fun _ _ _ _ => ev_len_sl⟩
instance {t e e' ty : TypeId} {n sz sz' y : Nat} {z sv : Value} {xs : List Value} [Sl P t e sz y z] [h : FndS l sv e' sz' n xs] : EvT P J l (.bi .len #[t] ty [sv]) (.int .i64 n) True := ⟨fun _ w H _ => by
  obtain ⟨i, hi⟩ := h.out
  have h1 := H.at hi
  rw [s_ok] at h1
  rcases h1.2 with ⟨rfl, rfl⟩ | ⟨g, cap, cur, rfl, _⟩
  · have := ev_len_sl (P := P) (w := w) (t := t) (ty := ty) (n := 0) (c := 0) (a := none); simpa using this
  · exact ev_len_sl⟩
instance {ats : Array TypeId} {ty : TypeId} {ik jk : IntKind} {x y : Int} : EvT P J l (.bi .max ats ty [.int ik x, .int jk y]) (.int ik (if y > x then y else x)) True := ⟨fun _ _ _ _ => ev_max⟩
instance {ats : Array TypeId} {ty : TypeId} {ik jk : IntKind} {x y : Int} : EvT P J l (.bi .min ats ty [.int ik x, .int jk y]) (.int ik (if y < x then y else x)) True := ⟨fun _ _ _ _ => ev_min⟩
instance {s t : TypeId} {sk jk : IntKind} {x : Int} [It P s jk] [It P t .i64] : EvT P J l (.conv s t (.int sk x)) (.int .i64 x) (-9223372036854775808 ≤ x ∧ x ≤ 9223372036854775807) := ⟨fun _ _ _ h => ec_i64 h⟩
instance {t e : TypeId} {n m len cap : Nat} {a : Option Addr} [Ar P t n e m] : EvT P J l (.s2ap t (.slice a len cap)) (.pointer a) (n ≤ len) := ⟨fun _ _ _ h => ev_s2ap h⟩
instance {t e : TypeId} {n m b o : Nat} [Ar P t n e m] : EvT P J l (.slice t (.pointer (some ⟨b, o, none⟩)) none none none) (.slice (some ⟨b, o, none⟩) n n) True := ⟨fun _ _ _ _ => ev_slice_ar⟩
instance {t e : TypeId} {m n c : Nat} {kh : IntKind} {a : Option Addr} {y : Nat} {z : Value} {i : Int} [Sl P t e m y z] : EvT P J l (.slice t (.slice a n c) none (some (.int kh i)) none) (.slice a i.toNat c) (0 ≤ i ∧ i ≤ c) := ⟨fun _ _ _ h => ev_slice_h h⟩
instance {t : TypeId} {x : List UInt8} {kh : IntKind} {i : Int} [Str P t] : EvT P J l (.slice t (str x) none (some (.int kh i)) none) (str (x.take i.toNat)) (0 ≤ i ∧ i ≤ x.length) := ⟨fun _ _ _ h => ev_sslice_h h⟩
instance {t : TypeId} {x : List UInt8} {kh : IntKind} {i : Int} [Str P t] : EvT P J l (.slice t (str x) (some (.int kh i)) none none) (str (x.drop i.toNat)) (0 ≤ i ∧ i ≤ x.length) := ⟨fun _ _ _ h => ev_sslice_l h⟩
instance {t : TypeId} {x : List UInt8} {kl kh : IntKind} {i j : Int} [Str P t] : EvT P J l (.slice t (str x) (some (.int kl i)) (some (.int kh j)) none) (str ((x.take j.toNat).drop i.toNat)) (0 ≤ i ∧ i ≤ j ∧ j ≤ x.length) := ⟨fun _ _ _ h => ev_sslice h.1 h.2.1 h.2.2⟩
instance {t : TypeId} {x : List UInt8} {ik : IntKind} {i : Int} [Str P t] : EvT P J l (.idx t (str x) (.int ik i)) (.int .u8 (x.getD i.toNat 0).toNat) (0 ≤ i ∧ i < x.length) := ⟨fun _ _ _ h => ev_sidx h.1 (by
  have : i.toNat < x.length := by omega
  simp [List.getD, this])⟩
instance {t e : TypeId} {b o m n : Nat} {ik : IntKind} {i : Int} [Ar P t n e m] : EvT P J l (.ia t (.pointer (some ⟨b, o, none⟩)) (.int ik i)) (.pointer (some ⟨b, o + i.toNat * m, none⟩)) (0 ≤ i ∧ i < n) := ⟨fun _ _ _ h => ev_ia_ar h⟩
instance {t e : TypeId} {b o m n c : Nat} {y : Nat} {z : Value} {ik : IntKind} {i : Int} [Sl P t e m y z] : EvT P J l (.ia t (.slice (some ⟨b, o, none⟩) n c) (.int ik i)) (.pointer (some ⟨b, o + i.toNat * m, none⟩)) (0 ≤ i ∧ i < n) := ⟨fun _ _ _ h => ev_ia h.1 h.2⟩
/-- Comparisons part the walk. -/
class Cmp (P : Program) (o : VOp) (p q : outParam Prop) : Prop where
  out : ∀ w, (p → Ev P o w (.bool true)) ∧ (q → Ev P o w (.bool false))
  em : p ∨ q
theorem cmp_dec {o : VOp} {p : Prop} [Decidable p] (h : ∀ w, Ev P o w (.bool (decide p))) : Cmp P o p (¬ p) := ⟨fun w => ⟨fun hp => ev_lss_t (decide_eq_true hp) (h w), fun hp => ev_lss_t (decide_eq_false hp) (h w)⟩, Decidable.em p⟩
theorem cmp_decn {o : VOp} {p : Prop} [Decidable p] (h : ∀ w, Ev P o w (.bool (decide (¬ p)))) : Cmp P o (¬ p) p := ⟨fun w => ⟨fun hp => ev_lss_t (decide_eq_true hp) (h w), fun hp => ev_lss_t (decide_eq_false (not_not_intro hp)) (h w)⟩, (Decidable.em p).symm⟩
instance {t : TypeId} {ik : IntKind} {x y : Int} : Cmp P (.bin .lss t (.int ik x) (.int ik y)) (x < y) (¬ x < y) := cmp_dec fun _ => ev_lss
instance {t : TypeId} {ik : IntKind} {x y : Int} : Cmp P (.bin .leq t (.int ik x) (.int ik y)) (x ≤ y) (¬ x ≤ y) := cmp_dec fun _ => ev_leq
instance {t : TypeId} {ik : IntKind} {x y : Int} : Cmp P (.bin .gtr t (.int ik x) (.int ik y)) (y < x) (¬ y < x) := cmp_dec fun _ => ev_gtr
instance {t : TypeId} {ik : IntKind} {x y : Int} : Cmp P (.bin .geq t (.int ik x) (.int ik y)) (y ≤ x) (¬ y ≤ x) := cmp_dec fun _ => ev_geq
instance {t : TypeId} {ik : IntKind} {x y : Int} : Cmp P (.bin .eql t (.int ik x) (.int ik y)) (x = y) (¬ x = y) := cmp_dec fun _ => ev_eql
instance {t : TypeId} {ik : IntKind} {x y : Int} : Cmp P (.bin .neq t (.int ik x) (.int ik y)) (¬ x = y) (x = y) := cmp_decn fun _ => ev_neq
instance {t : TypeId} {a b : List UInt8} : Cmp P (.bin .eql t (str a) (str b)) (a = b) (¬ a = b) := cmp_dec fun _ => ev_seq
instance {t : TypeId} {a b : List UInt8} : Cmp P (.bin .neq t (str a) (str b)) (¬ a = b) (a = b) := cmp_decn fun _ => ev_sne
theorem D_cmp {o : VOp} {p q : Prop} [h : Cmp P o p q] (h1 : p → k (.bool true) w) (h2 : q → k (.bool false) w) : D P o k w := by
  rcases h.em with hp | hp
  · exact D_ev ((h.out w).1 hp) (h1 hp)
  · exact D_ev ((h.out w).2 hp) (h2 hp)
theorem Fl_cmp {o : VOp} {p q : Prop} [h : Cmp P o p q] {k : Value → Prop} (h1 : p → k (.bool true)) (h2 : q → k (.bool false)) : Fl P o w k := by
  rcases h.em with hp | hp
  · exact Fl_ev ((h.out w).1 hp) (h1 hp)
  · exact Fl_ev ((h.out w).2 hp) (h2 hp)
/-- A value's cells, each of which fits a cell. -/
class CelM (l : List Rs) (v : Value) (vs : outParam (List Value)) (side : outParam Prop) : Prop where
  out : ∀ (J : World → Prop) (U : Nat → Prop) (w : World), Cur J U w l → side → v.cells = vs.toArray ∧ vs.all (fun x => x.oneCell') = true
instance {l : List Rs} {v : Value} {vs : List Value} [h : Cel v vs] : CelM l v vs (vs.all (fun x => x.oneCell') = true) := ⟨fun _ _ _ _ hs => ⟨h.out, hs⟩⟩
instance {l : List Rs} {sv : Value} {e : TypeId} {sz n : Nat} {xs : List Value} [h : FndS l sv e sz n xs] : CelM l sv [sv] True := ⟨fun _ _ w H _ => by
  obtain ⟨i, hi⟩ := h.out
  have h1 := H.at hi
  rw [s_ok] at h1
  rcases h1.2 with ⟨rfl, _⟩ | ⟨g, cap, cur, rfl, _⟩ <;> exact ⟨rfl, rfl⟩⟩
/-- A store. -/
theorem D_storeT (hJ : Jst J U) (H : Cur J U w l) {t : TypeId} {b o n : Nat} {v : Value} {c c' vs : List Value} {l' : List Rs} {ty : TypeId} {side : Prop} [hs : Sz1 P t n] [hf : Fnd l b c ty] [hv : CelM l v vs side] [hc : Spl c o vs c'] [hl : SetB l b (.cells c.toArray ty) (.cells c'.toArray ty) l']
    (hn : vs.length = n) (h1 : side) (hk : ∀ w', Cur J U w' l' → k undef w') : D P (.store t (.pointer (some ⟨b, o, none⟩)) v) k w := by
  obtain ⟨i, h2, h3⟩ := hl.out
  subst hn
  obtain ⟨h4, h5⟩ := hv.out J U w H h1
  exact D_storeL hJ H i h2 h4 rfl h5 hc.out.2 hc.out.1 h3 hk
theorem D_boxT (hJ : Jst J U) (H : Cur J U w l) {t : TypeId} {v : Value} {vs : List Value} {side : Prop} [hv : CelM l v vs side] (h1 : side)
    (hk : ∀ w' b, Cur J U w' (l ++ [.b b (.cells vs.toArray t)]) → k (.pointer (some ⟨b, 0, none⟩)) w') : D P (.box t v) k w := D_boxL hJ H (hv.out J U w H h1).1 hk
theorem D_mkSlT (hJ : Jst J U) (H : Cur J U w l) {t e : TypeId} {y : Nat} {z v : Value} {side : Prop} [hs : Sl P t e 1 y z] [hv : CelM l v [v] side] (h1 : side)
    (hk : ∀ w' b, Cur J U w' (l ++ [.b b (.cells [v].toArray e)]) → k (.slice (some ⟨b, 0, none⟩) 1 1) w') : D P (.mkSl t 1 [(0, v)]) k w := D_mkSlc hJ H (hv.out J U w H h1).1 hk
theorem D_appT (hJ : Jst J U) (H : Cur J U w l) {t e ty : TypeId} {z v : Value} {bytes : Nat} [hsl : Sl P t e 1 bytes z] {sv : Value} {n : Nat} {xs : List Value} [hS : FndS l sv e 1 n xs] {b' : Nat} [hM : Mem J l b' [v]]
    (h1 : v.oneCell' = true) (h63 : n < 4294967296) (hbytes : bytes ≤ 1024)
    (hk : ∀ w' g cap l', SetS l sv (.s sv e 1 n xs) (.s (.slice (some ⟨g, 0, none⟩) (n + 1) cap) e 1 (n + 1) (xs ++ [v])) l' → Cur J U w' l' → k (.slice (some ⟨g, 0, none⟩) (n + 1) cap) w') : D P (.bi .append #[t, t] ty [sv, .slice (some ⟨b', 0, none⟩) 1 1]) k w := by
  obtain ⟨i, hi⟩ := hS.out
  exact D_append1 hJ H i hi (hM.out U w H) h1 h63 hbytes fun w' g cap H' => hk w' g cap _ ⟨i, hi, rfl⟩ H'
/-- The same, the new list named. -/
theorem D_app1 (hJ : Jst J U) (H : Cur J U w l) {t e ty : TypeId} {z v : Value} {bytes : Nat} [hsl : Sl P t e 1 bytes z] {sv : Value} {n : Nat} {xs : List Value} {lf : Value → List Rs} {b' : Nat} [hM : Mem J l b' [v]]
    (hS : ∃ i : Nat, l[i]? = some (Rs.s sv e 1 n xs) ∧ ∀ sv', l.set i (.s sv' e 1 (n + 1) (xs ++ [v])) = lf sv')
    (h1 : v.oneCell' = true) (h63 : n < 4294967296) (hbytes : bytes ≤ 1024)
    (hk : ∀ w' g cap, Cur J U w' (lf (.slice (some ⟨g, 0, none⟩) (n + 1) cap)) → k (.slice (some ⟨g, 0, none⟩) (n + 1) cap) w') : D P (.bi .append #[t, t] ty [sv, .slice (some ⟨b', 0, none⟩) 1 1]) k w := by
  obtain ⟨i, hi, he⟩ := hS
  exact D_append1 hJ H i hi (hM.out U w H) h1 h63 hbytes fun w' g cap H' => hk w' g cap (by rw [← he]; exact H')
/-- The place of a slice of one's own, and the list with another one there. -/
class LfS (l : List Rs) (sv : Value) (e : TypeId) (sz n : outParam Nat) (xs : outParam (List Value)) (lf : outParam (Rs → List Rs)) : Prop where
  out : ∃ i : Nat, l[i]? = some (Rs.s sv e sz n xs) ∧ ∀ r, l.set i r = lf r
instance (priority := 200) {l : List Rs} {sv : Value} {e : TypeId} {sz n : Nat} {xs : List Value} : LfS (.s sv e sz n xs :: l) sv e sz n xs (fun r => r :: l) := ⟨0, rfl, fun _ => rfl⟩
instance {a : Rs} {l : List Rs} {sv : Value} {e : TypeId} {sz n : Nat} {xs : List Value} {lf : Rs → List Rs} [h : LfS l sv e sz n xs lf] : LfS (a :: l) sv e sz n xs (fun r => a :: lf r) := ⟨by obtain ⟨i, h1, h2⟩ := h.out; exact ⟨i + 1, by simpa using h1, fun r => by simp [h2]⟩⟩
theorem D_appL (hJ : Jst J U) (H : Cur J U w l) {t e ty : TypeId} {z v : Value} {bytes : Nat} [hsl : Sl P t e 1 bytes z] {sv : Value} {n : Nat} {xs : List Value} {lf : Rs → List Rs} [hS : LfS l sv e 1 n xs lf] {b' : Nat} [hM : Mem J l b' [v]]
    (h1 : v.oneCell' = true) (h63 : n < 4294967296) (hbytes : bytes ≤ 1024)
    (hk : ∀ w' g cap, Cur J U w' (lf (.s (.slice (some ⟨g, 0, none⟩) (n + 1) cap) e 1 (n + 1) (xs ++ [v]))) → k (.slice (some ⟨g, 0, none⟩) (n + 1) cap) w') : D P (.bi .append #[t, t] ty [sv, .slice (some ⟨b', 0, none⟩) 1 1]) k w := by
  obtain ⟨i, hi, he⟩ := hS.out
  exact D_append1 hJ H i hi (hM.out U w H) h1 h63 hbytes fun w' g cap H' => hk w' g cap (by rw [← he]; exact H')
theorem D_mkT (hJ : Jst J U) (H : Cur J U w l) {d : Nat} {l' : List Rs} [h : SetB l d (.deferred (some [])) (.deferred none) l'] {k : World → Prop} (hk : ∀ w', Cur J U w' l' → k w') : Mk d w k := by
  obtain ⟨i, h1, h2⟩ := h.out
  refine ⟨H.blk h1, hk _ ?_⟩
  have := turn_obj hJ H (.deferred none) h1
  rwa [h2] at this
end
end Go.Rv
namespace Go.Rv
open Go.RowKit
section
variable {P : Program} {J : World → Prop} {U : Nat → Prop} {w w0 : World} {l : List Rs} {k : KV}
theorem st_cmpt {o : VOp} {p q : Prop} {r : List (Option VOp × Value)} [h : Cmp P o p q] (hp : p) (hl : StAll P r w) : StAll P ((some o, .bool true) :: r) w := stAll_cons ((h.out w).1 hp) hl
theorem st_cmpf {o : VOp} {p q : Prop} {r : List (Option VOp × Value)} [h : Cmp P o p q] (hp : q) (hl : StAll P r w) : StAll P ((some o, .bool false) :: r) w := stAll_cons ((h.out w).2 hp) hl
theorem D_ldR (H : Cur J U w l) {t : TypeId} {b o : Nat} {c : List Value} {v : Value} [Sc P t] [h : Mem J l b c] (hv : c[o]? = some v) (hk : k v w) : D P (.load t (.pointer (some ⟨b, o, none⟩))) k w := D_ev (el_sc (h.out _ _ H) hv) hk
theorem D_ldA (H : Cur J U w l) {t : TypeId} {b o n : Nat} {c cs : List Value} [Ag P t n] [h : Mem J l b c] (hv : (c.drop o).take n = cs) (hn : cs.length = n) (hk : k (.agg cs.toArray) w) : D P (.load t (.pointer (some ⟨b, o, none⟩))) k w := D_ev (el_ag (h.out _ _ H) hv hn) hk
theorem Kn.of {J : World → Prop} {w0 : World} {b : Nat} {c : List Value} (h : BlkL w0 b c) (hJ : ∀ w, J w → Below w0.heap.size w0 w) : Kn J b c := ⟨fun w hj => blk_below (hJ w hj) h⟩
theorem Kn.base {w0 : World} {b : Nat} {c : List Value} (h : BlkL w0 b c) : Kn (Below w0.heap.size w0) b c := ⟨fun _ hj => blk_below hj h⟩
theorem Fl_ldR (H : Cur J U w l) {t : TypeId} {b o : Nat} {c : List Value} {v : Value} [Sc P t] [h : Mem J l b c] (hv : c[o]? = some v) {k : Value → Prop} (hk : k v) : Fl P (.load t (.pointer (some ⟨b, o, none⟩))) w k := Fl_ev (el_sc (h.out _ _ H) hv) hk
end
end Go.Rv
namespace Go.Rv
open Go.RowKit
/-- The place of a number's element. -/
class Ix (i : Int) (m : Nat) (o : outParam Nat) : Prop where
  out : i.toNat * m = o
instance (priority := 200) {i : Int} {m : Nat} : Ix i m (i.toNat * m) := ⟨rfl⟩
instance (priority := 1200) {i : Int} : Ix i 1 i.toNat := ⟨by simp⟩
instance (priority := 1400) : Ix 0 1 0 := ⟨rfl⟩
instance (priority := 1400) : Ix 1 1 1 := ⟨rfl⟩
instance (priority := 1400) : Ix 2 1 2 := ⟨rfl⟩
instance (priority := 1400) : Ix 3 1 3 := ⟨rfl⟩
instance (priority := 1400) : Ix 4 1 4 := ⟨rfl⟩
instance (priority := 1400) : Ix 5 1 5 := ⟨rfl⟩
instance (priority := 1400) : Ix 6 1 6 := ⟨rfl⟩
instance (priority := 1400) : Ix 7 1 7 := ⟨rfl⟩
instance (priority := 1400) : Ix 8 1 8 := ⟨rfl⟩
instance (priority := 1400) : Ix 9 1 9 := ⟨rfl⟩
instance (priority := 1400) : Ix 10 1 10 := ⟨rfl⟩
instance (priority := 1400) : Ix 0 2 0 := ⟨rfl⟩
instance (priority := 1400) : Ix 1 2 2 := ⟨rfl⟩
instance (priority := 1400) : Ix 2 2 4 := ⟨rfl⟩
instance (priority := 1400) : Ix 3 2 6 := ⟨rfl⟩
instance (priority := 1400) : Ix 4 2 8 := ⟨rfl⟩
instance (priority := 1400) : Ix 5 2 10 := ⟨rfl⟩
instance (priority := 1400) : Ix 6 2 12 := ⟨rfl⟩
instance (priority := 1400) : Ix 7 2 14 := ⟨rfl⟩
instance (priority := 1400) : Ix 8 2 16 := ⟨rfl⟩
instance (priority := 1400) : Ix 9 2 18 := ⟨rfl⟩
instance (priority := 1400) : Ix 10 2 20 := ⟨rfl⟩
instance (priority := 1400) : Ix 0 3 0 := ⟨rfl⟩
instance (priority := 1400) : Ix 1 3 3 := ⟨rfl⟩
instance (priority := 1400) : Ix 2 3 6 := ⟨rfl⟩
instance (priority := 1400) : Ix 3 3 9 := ⟨rfl⟩
instance (priority := 1400) : Ix 4 3 12 := ⟨rfl⟩
instance (priority := 1400) : Ix 5 3 15 := ⟨rfl⟩
instance (priority := 1400) : Ix 6 3 18 := ⟨rfl⟩
instance (priority := 1400) : Ix 7 3 21 := ⟨rfl⟩
instance (priority := 1400) : Ix 8 3 24 := ⟨rfl⟩
instance (priority := 1400) : Ix 9 3 27 := ⟨rfl⟩
instance (priority := 1400) : Ix 10 3 30 := ⟨rfl⟩
instance (priority := 1400) : Ix 0 64 0 := ⟨rfl⟩
instance (priority := 1400) : Ix 1 64 64 := ⟨rfl⟩
instance (priority := 1400) : Ix 2 64 128 := ⟨rfl⟩
instance (priority := 1400) : Ix 3 64 192 := ⟨rfl⟩
instance (priority := 1400) : Ix 4 64 256 := ⟨rfl⟩
instance (priority := 1400) : Ix 5 64 320 := ⟨rfl⟩
instance (priority := 1400) : Ix 6 64 384 := ⟨rfl⟩
instance (priority := 1400) : Ix 7 64 448 := ⟨rfl⟩
instance (priority := 1400) : Ix 8 64 512 := ⟨rfl⟩
instance (priority := 1400) : Ix 9 64 576 := ⟨rfl⟩
instance (priority := 1400) : Ix 10 64 640 := ⟨rfl⟩
instance (priority := 1300) {n : Nat} : Ix (n : Int) 1 n := ⟨by simp⟩
section
variable {P : Program} {J : World → Prop} {U : Nat → Prop} {w w0 : World} {l : List Rs} {k : KV}
instance (priority := 1100) {t e : TypeId} {b m n o : Nat} {ik : IntKind} {i : Int} [Ar P t n e m] [h : Ix i m o] : EvT P J l (.ia t (.pointer (some ⟨b, 0, none⟩)) (.int ik i)) (.pointer (some ⟨b, o, none⟩)) (0 ≤ i ∧ i < n) := ⟨fun _ w _ hs => by have := ev_ia_ar (P := P) (w := w) (t := t) (b := b) (o := 0) (ik := ik) hs; rw [h.out, Nat.zero_add] at this; exact this⟩
instance (priority := 1100) {t e : TypeId} {b m n c o : Nat} {y : Nat} {z : Value} {ik : IntKind} {i : Int} [Sl P t e m y z] [h : Ix i m o] : EvT P J l (.ia t (.slice (some ⟨b, 0, none⟩) n c) (.int ik i)) (.pointer (some ⟨b, o, none⟩)) (0 ≤ i ∧ i < n) := ⟨fun _ w _ hs => by have := ev_ia (P := P) (w := w) (t := t) (b := b) (o := 0) (c := c) (ik := ik) hs.1 hs.2; rw [h.out, Nat.zero_add] at this; exact this⟩
instance {t e : TypeId} {m n o : Nat} {ik : IntKind} {i : Int} {c : List Value} {v : Value} [Ar P t n e m] [Sc P e] [h : Ix i m o] [hv : Nth c o v] : EvT P J l (.idx t (.agg c.toArray) (.int ik i)) v (0 ≤ i ∧ i < n) := ⟨fun _ _ _ hs => ev_idx_ar_sc hs (by rw [h.out]; exact hv.out)⟩
instance {t e : TypeId} {m m' n o : Nat} {ik : IntKind} {i : Int} {c cs : List Value} [Ar P t n e m] [Ag P e m'] [h : Ix i m o] [hv : Tk c o m cs] : EvT P J l (.idx t (.agg c.toArray) (.int ik i)) (.agg cs.toArray) (0 ≤ i ∧ i < n) := ⟨fun _ _ _ hs => ev_idx_ar_ag (m' := m') hs (by rw [h.out]; exact hv.out.1)⟩
end
end Go.Rv
namespace Go.Rv
theorem D_cong {P : Program} {o o' : VOp} {k : KV} {w : World} (h : o = o') (hk : D P o' k w) : D P o k w := h ▸ hk
theorem Fl_cong {P : Program} {o o' : VOp} {k : Value → Prop} {w : World} (h : o = o') (hk : Fl P o' w k) : Fl P o w k := h ▸ hk
theorem GD_cong {P : Program} {g g' : Value} {b : Bool} {o : VOp} {k : KV} {w : World} (h : g = g') (hk : GD P g' b o k w) : GD P g b o k w := h ▸ hk
theorem Cnd_cong {v v' : Value} {p q : Prop} (h : v = v') (hk : Cnd v' p q) : Cnd v p q := h ▸ hk
end Go.Rv
