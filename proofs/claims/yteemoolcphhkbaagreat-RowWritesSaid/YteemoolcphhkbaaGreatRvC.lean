/- Part of the proof that YteemoolcphhkbaaGreat holds whatever the input: a text of contracts, laws and steps; no condition. -/
import Derived.Test.YteemoolcphhkbaaGreatRvR
import Derived.WalkKit
set_option linter.all false
set_option autoImplicit false
namespace Go.Rv

/-- An operation has such a value, and leaves the world as it is. -/
def Ev (P : Program) (o : VOp) (w : World) (v : Value) : Prop := (VOp.sem o).run P w = .ok (.value v) w

section
variable {P : Program} {w : World} {k : KV} {v : Value} {o : VOp}
theorem D_ev (h : Ev P o w v) (hk : k v w) : D P o k w := ⟨by unfold D0; rw [h]; exact hk⟩
theorem Fl_ev {k : Value → Prop} (h : Ev P o w v) (hk : k v) : Fl P o w k := ⟨v, h, hk⟩
theorem D_eq (h : Ev P o w v) : D P o k w = k v w := propext ⟨fun hd => by have := hd.out; unfold D0 at this; rw [h] at this; exact this, D_ev h⟩
theorem Fl_eq {k : Value → Prop} (h : Ev P o w v) : Fl P o w k = k v := propext ⟨fun hd => by obtain ⟨v', h1, h2⟩ := hd.out; rw [h] at h1; cases h1; exact h2, Fl_ev h⟩
theorem GD_true {want : Bool} (hk : D P o k w) : GD P (.bool want) want o k w := ⟨by unfold GD0; cases want <;> exact hk⟩
theorem GD_false {b want : Bool} (hne : b = !want) (hk : k undef w) : GD P (.bool b) want o k w := ⟨by unfold GD0; subst hne; cases want <;> exact hk⟩
theorem GM_true {want : Bool} {x : Value} {k : Value → Prop} (hk : k x) : GM (.bool want) want x k := ⟨by unfold GM0; cases want <;> exact hk⟩
theorem GM_false {b want : Bool} {x : Value} {k : Value → Prop} (hne : b = !want) (hk : k undef) : GM (.bool b) want x k := ⟨by unfold GM0; subst hne; cases want <;> exact hk⟩
theorem GF_true {want : Bool} {K : Option VOp → Value → Prop} (hk : Fl P o w fun v => K (some o) v) : GF P (.bool want) want o w K := ⟨by unfold GF0; cases want <;> exact hk⟩
theorem GF_false {b want : Bool} {K : Option VOp → Value → Prop} (hne : b = !want) (hk : K none undef) : GF P (.bool b) want o w K := ⟨by unfold GF0; subst hne; cases want <;> exact hk⟩
theorem Cnd_true {p q : Prop} (h : p) : Cnd (.bool true) p q := ⟨h⟩
theorem Cnd_false {p q : Prop} (h : q) : Cnd (.bool false) p q := ⟨h⟩
theorem Cnd_dec {c : Prop} [Decidable c] {p q : Prop} (h1 : c → p) (h2 : ¬ c → q) : Cnd (.bool (decide c)) p q := by
  by_cases h : c
  · rw [decide_eq_true h]; exact ⟨h1 h⟩
  · rw [decide_eq_false h]; exact ⟨h2 h⟩
theorem Cnd_b {b : Bool} {p q : Prop} (h1 : b = true → p) (h2 : b = false → q) : Cnd (.bool b) p q := by
  cases b
  · exact ⟨h2 rfl⟩
  · exact ⟨h1 rfl⟩

theorem ev_nilck {a : Addr} : Ev P (.nilck (.pointer (some a))) w (.pointer (some a)) := rfl
theorem ev_ext {vs : Array Value} {i : Nat} (h : vs[i]? = some v) : Ev P (.ext (.tuple vs) i) w v := by
  simp [Ev, VOp.sem, Instr.extract, h, go_sem]
theorem ev_pick_t {a b : Value} : Ev P (.pick (.bool true) a b) w a := by simp [Ev, VOp.sem, go_sem, asBool]
theorem ev_pick_f {a b : Value} : Ev P (.pick (.bool false) a b) w b := by simp [Ev, VOp.sem, go_sem, asBool]
theorem ev_add {ik : IntKind} {t : TypeId} {x y : Int} : Ev P (.bin .add t (.int ik x) (.int ik y)) w (.int ik (ik.wrap (x + y))) := by
  simp [Ev, VOp.sem, eqGuard, binOp, Op.intArith, go_sem]
theorem ev_sub {ik : IntKind} {t : TypeId} {x y : Int} : Ev P (.bin .sub t (.int ik x) (.int ik y)) w (.int ik (ik.wrap (x - y))) := by
  simp [Ev, VOp.sem, eqGuard, binOp, Op.intArith, go_sem]
theorem ev_mul {ik : IntKind} {t : TypeId} {x y : Int} : Ev P (.bin .mul t (.int ik x) (.int ik y)) w (.int ik (ik.wrap (x * y))) := by
  simp [Ev, VOp.sem, eqGuard, binOp, Op.intArith, go_sem]
theorem ev_quo {ik : IntKind} {t : TypeId} {x y : Int} (h : y ≠ 0) : Ev P (.bin .quo t (.int ik x) (.int ik y)) w (.int ik (ik.wrap (x.tdiv y))) := by
  simp [Ev, VOp.sem, eqGuard, binOp, Op.intDiv, go_sem, h]
theorem ev_rem {ik : IntKind} {t : TypeId} {x y : Int} (h : y ≠ 0) : Ev P (.bin .rem t (.int ik x) (.int ik y)) w (.int ik (x.tmod y)) := by
  simp [Ev, VOp.sem, eqGuard, binOp, Op.intDiv, go_sem, h]
theorem ev_lss {ik : IntKind} {t : TypeId} {x y : Int} : Ev P (.bin .lss t (.int ik x) (.int ik y)) w (.bool (decide (x < y))) := by
  simp [Ev, VOp.sem, eqGuard, binOp, Op.intCmp, go_sem]
theorem ev_leq {ik : IntKind} {t : TypeId} {x y : Int} : Ev P (.bin .leq t (.int ik x) (.int ik y)) w (.bool (decide (x ≤ y))) := by
  simp [Ev, VOp.sem, eqGuard, binOp, Op.intCmp, go_sem]
theorem ev_gtr {ik : IntKind} {t : TypeId} {x y : Int} : Ev P (.bin .gtr t (.int ik x) (.int ik y)) w (.bool (decide (y < x))) := by
  simp [Ev, VOp.sem, eqGuard, binOp, Op.intCmp, go_sem]
theorem ev_geq {ik : IntKind} {t : TypeId} {x y : Int} : Ev P (.bin .geq t (.int ik x) (.int ik y)) w (.bool (decide (y ≤ x))) := by
  simp [Ev, VOp.sem, eqGuard, binOp, Op.intCmp, go_sem]
theorem ev_eql {ik : IntKind} {t : TypeId} {x y : Int} : Ev P (.bin .eql t (.int ik x) (.int ik y)) w (.bool (decide (x = y))) := by
  simp [Ev, VOp.sem, eqGuard, binOp, Op.intCmp, go_sem]
  by_cases h : x = y <;> simp [h]
theorem ev_neq {ik : IntKind} {t : TypeId} {x y : Int} : Ev P (.bin .neq t (.int ik x) (.int ik y)) w (.bool (decide (x ≠ y))) := by
  simp [Ev, VOp.sem, eqGuard, binOp, Op.intCmp, go_sem]
  by_cases h : x = y <;> simp [h]
theorem ev_not {b : Bool} : Ev P (.un .not (.bool b)) w (.bool (!b)) := by simp [Ev, VOp.sem, Op.unary, go_sem]

/-- A type whose values are one cell. -/
class Sc (P : Program) (t : TypeId) : Prop where
  out : ∃ d, P.underlying t = some d ∧ (match d with | .struct _ | .array _ _ => False | _ => True)
/-- A type whose values are several cells, n of them. -/
class Ag (P : Program) (t : TypeId) (n : outParam Nat) : Prop where
  out : (∃ d, P.underlying t = some d ∧ (match d with | .struct _ | .array _ _ => True | _ => False)) ∧ ∃ i, P.info? t = some i ∧ i.size = n
/-- A struct's field: so many cells behind its head. -/
class Fa (P : Program) (t : TypeId) (i : Nat) (off : outParam Nat) : Prop where
  out : ∃ fs f j, P.underlying t = some (.struct fs) ∧ fs[i]? = some f ∧ f.offset = off ∧ P.info? f.type = some j ∧ j.size ≠ 0
/-- A string type. -/
class Str (P : Program) (t : TypeId) : Prop where
  out : P.underlying t = some .string
/-- An integer type. -/
class It (P : Program) (t : TypeId) (k : outParam IntKind) : Prop where
  out : P.underlying t = some (.int k)
/-- A slice type: its element type, the element's cells, bytes and zero value. -/
class Sl (P : Program) (t : TypeId) (e : outParam TypeId) (n : outParam Nat) (y : outParam Nat) (z : outParam Value) : Prop where
  out : P.underlying t = some (.slice e) ∧ ∃ i, P.info? e = some i ∧ i.size = n ∧ i.bytes = y ∧ i.zero = some z ∧ z.cells.size = n
def Blk (w : World) (b : Nat) (c : Array Value) : Prop := ∃ t fr, w.heap[b]? = some (.cells c t fr)

theorem Blk.cell {b o : Nat} {c : Array Value} (h : Blk w b c) (hv : c[o]? = some v) : w.cell? ⟨b, o, none⟩ = some v := by
  obtain ⟨t, fr, h⟩ := h
  simp [World.cell?, h, hv]

theorem run_isAgg_sc {t : TypeId} (h : Sc P t) : (isAgg t).run P w = .ok false w := by
  obtain ⟨d, h, hd⟩ := h.out
  unfold isAgg
  rw [Sem.run_bind, run_underlying h]
  cases d <;> simp_all [Result.andThen, pure, Sem.run]

theorem ev_load {t : TypeId} {b o : Nat} {c : Array Value} [hs : Sc P t] (h : Blk w b c) (hv : c[o]? = some v) : Ev P (.load t (.pointer (some ⟨b, o, none⟩))) w v := by
  have := h.cell hv
  simp only [Ev, VOp.sem, Instr.loadAt, Instr.sureAddr, pure_bind, loadVar]
  rw [Sem.run_bind, Sem.run_bind, run_isAgg_sc hs]
  simp [Result.andThen, load, Sem.run, this, pure]

theorem ev_fa {t : TypeId} {b o i off : Nat} [h : Fa P t i off] : Ev P (.fa t (.pointer (some ⟨b, o, none⟩)) i) w (.pointer (some ⟨b, o + off, none⟩)) := by
  obtain ⟨fs, f, j, h1, h2, h3, h4, h5⟩ := h.out
  simp only [Ev, VOp.sem, Instr.fieldAt, Instr.sureAddr]
  rw [Sem.run_bind, Sem.run_bind, run_underlying h1]
  simp only [Result.andThen, h2, pure_bind, fieldPlace, sizeOf, typeInfo]
  simp [program, h4, h5, bind, Sem.bind, Sem.run, pure, Addr.add, h3]

theorem ev_len_sl {t e ty : TypeId} {n c m y : Nat} {z : Value} {a : Option Addr} [h : Sl P t e m y z] : Ev P (.bi .len #[t] ty [.slice a n c]) w (.int .i64 n) := by
  simp [Ev, VOp.sem, builtin, Builtin.len_, bind, Sem.bind, Sem.run, pure, underlying, program, h.out.1, goInt]
theorem ev_len_str {t ty : TypeId} {s : ByteArray} (h : P.underlying t = some .string) : Ev P (.bi .len #[t] ty [.string s]) w (.int .i64 s.size) := by
  simp [Ev, VOp.sem, builtin, Builtin.len_, bind, Sem.bind, Sem.run, pure, underlying, program, h, goInt]

theorem ev_ia {t e : TypeId} {b o m n c : Nat} {y : Nat} {z : Value} {ik : IntKind} {i : Int} [h : Sl P t e m y z] (h0 : 0 ≤ i) (h1 : i < n) :
    Ev P (.ia t (.slice (some ⟨b, o, none⟩) n c) (.int ik i)) w (.pointer (some ⟨b, o + i.toNat * m, none⟩)) := by
  obtain ⟨h2, j, h3, h4, _⟩ := h.out
  simp [Ev, VOp.sem, Instr.indexAt, asIntOf, bind, Sem.bind, Sem.run, pure, underlying, program, h2, h0, h1, sizeOf, typeInfo, h3, h4, Addr.add]

/-! Strings by their bytes -/
def bs (l : List UInt8) : ByteArray := ⟨l.toArray⟩
def str (l : List UInt8) : Value := .string (bs l)
theorem bs_toList (l : List UInt8) : (bs l).toList = l := ByteArray.toList_mk l
theorem bs_size (l : List UInt8) : (bs l).size = l.length := by simp [bs, ByteArray.size]
theorem bs_data (s : ByteArray) : bs s.data.toList = s := by cases s; simp [bs]
theorem str_of (s : ByteArray) : Value.string s = str s.data.toList := by rw [str, bs_data]
theorem bs_append (a b : List UInt8) : bs a ++ bs b = bs (a ++ b) := by
  apply ByteArray.ext
  simp [bs, ByteArray.data_append]

theorem ev_seq {t : TypeId} {a b : List UInt8} : Ev P (.bin .eql t (str a) (str b)) w (.bool (decide (a = b))) := by
  simp [Ev, VOp.sem, eqGuard, binOp, Op.stringOp, str, bs_toList, go_sem]
  by_cases h : a = b <;> simp [h]
theorem ev_sne {t : TypeId} {a b : List UInt8} : Ev P (.bin .neq t (str a) (str b)) w (.bool (decide (a ≠ b))) := by
  simp [Ev, VOp.sem, eqGuard, binOp, Op.stringOp, str, bs_toList, go_sem]
  by_cases h : a = b <;> simp [h]
theorem ev_sadd {t : TypeId} {a b : List UInt8} (h : a.length + b.length ≤ 9223372036854775807) : Ev P (.bin .add t (str a) (str b)) w (str (a ++ b)) := by
  have h' : ¬ (((bs a).size + (bs b).size : Nat) : Int) > IntKind.i64.max := by
    rw [bs_size, bs_size]; simp only [IntKind.max, IntKind.bits, IntKind.signed]; omega
  simp only [Ev, VOp.sem, str, eqGuard, binOp, Op.stringOp, if_neg h', bs_append]
  simp [bind, Sem.bind, Sem.run, pure]
theorem ev_slen {t ty : TypeId} {l : List UInt8} [h : Str P t] : Ev P (.bi .len #[t] ty [str l]) w (.int .i64 l.length) := by
  have := ev_len_str (P := P) (w := w) (ty := ty) (s := bs l) h.out
  rw [bs_size] at this; exact this
theorem ev_sidx {t : TypeId} {l : List UInt8} {ik : IntKind} {i : Int} {c : UInt8} [h : Str P t] (h0 : 0 ≤ i) (hc : l[i.toNat]? = some c) :
    Ev P (.idx t (str l) (.int ik i)) w (.int .u8 c.toNat) := by
  have hlt : i.toNat < l.length := (List.getElem?_eq_some_iff.1 hc).1
  have hi : 0 ≤ i ∧ i < (bs l).size := ⟨h0, by rw [bs_size]; omega⟩
  have hg : (bs l)[i.toNat]'(by rw [bs_size]; exact hlt) = c := by
    have := (List.getElem?_eq_some_iff.1 hc).2
    simpa [bs, ByteArray.getElem_eq_getElem_data] using this
  simp only [Ev, VOp.sem]
  rw [Sem.run_bind, show str l = .string (bs l) from rfl, run_index_string w t _ _ _ h.out, dif_pos hi]
  simp [Result.andThen, Sem.run, pure, hg]

theorem ev_shr {ik yk : IntKind} {t : TypeId} {x y : Int} (h : 0 ≤ y) : Ev P (.bin .shr t (.int ik x) (.int yk y)) w (.int ik (x / 2 ^ min y.toNat ik.bits)) := by
  simp [Ev, VOp.sem, eqGuard, binOp, go_sem, h]
theorem ev_shl {ik yk : IntKind} {t : TypeId} {x y : Int} (h : 0 ≤ y) : Ev P (.bin .shl t (.int ik x) (.int yk y)) w (.int ik (ik.wrap (x * 2 ^ min y.toNat ik.bits))) := by
  simp [Ev, VOp.sem, eqGuard, binOp, go_sem, h]
theorem ev_bits {ik : IntKind} {t : TypeId} {x y : Int} {o : BinOp} (ho : o = .and ∨ o = .or ∨ o = .xor ∨ o = .andNot) {v : Value} (h : (Op.intBits o ik x y) = pure v) : Ev P (.bin o t (.int ik x) (.int ik y)) w v := by
  rcases ho with rfl | rfl | rfl | rfl <;> simp [Ev, VOp.sem, eqGuard, binOp, h, bind, Sem.bind, Sem.run, pure]
theorem ev_conv {s t : TypeId} {sk ik jk : IntKind} {x : Int} [hs : It P s jk] [h : It P t ik] : Ev P (.conv s t (.int sk x)) w (.int ik (ik.wrap x)) := by
  have : (convert s t (.int sk x)).run P w = .ok (.int ik (ik.wrap x)) w := by
    unfold convert
    rw [Sem.run_bind, run_underlying hs.out]
    simp only [Result.andThen]
    rw [Sem.run_bind, run_underlying h.out]
    simp only [Result.andThen]
    simp [Conv.intToInt, pure, Sem.run]
  simp only [Ev, VOp.sem]
  rw [Sem.run_bind, this]
  rfl
theorem ev_max {ats : Array TypeId} {ty : TypeId} {ik jk : IntKind} {x y : Int} : Ev P (.bi .max ats ty [.int ik x, .int jk y]) w (.int ik (if y > x then y else x)) := by
  simp [Ev, VOp.sem, builtin, Builtin.max_, Builtin.max2, bind, Sem.bind, Sem.run, pure]
theorem ev_min {ats : Array TypeId} {ty : TypeId} {ik jk : IntKind} {x y : Int} : Ev P (.bi .min ats ty [.int ik x, .int jk y]) w (.int ik (if y < x then y else x)) := by
  simp [Ev, VOp.sem, builtin, Builtin.min_, Builtin.min2, bind, Sem.bind, Sem.run, pure]

/-! Struct and array values -/
theorem run_isAgg_ag {t : TypeId} {n : Nat} (h : Ag P t n) : (isAgg t).run P w = .ok true w := by
  obtain ⟨⟨d, h, hd⟩, _⟩ := h.out
  unfold isAgg
  rw [Sem.run_bind, run_underlying h]
  cases d <;> simp_all [Result.andThen, pure, Sem.run]
theorem addr_add {b o j : Nat} : (⟨b, o, none⟩ : Addr).add j = ⟨b, o + j, none⟩ := by
  unfold Addr.add; split <;> simp_all
theorem loadCells_blk {b o : Nat} {c : Array Value} {cs : List Value} (h : Blk w b c) (hc : (c.toList.drop o).take cs.length = cs) : (loadCells ⟨b, o, none⟩ cs.length).run P w = .ok cs.toArray w := by
  refine run_loadCells_list (P := P) w ⟨b, o, none⟩ cs fun j v hv => ?_
  rw [addr_add]
  refine h.cell ?_
  have hj : j < cs.length := (List.getElem?_eq_some_iff.1 hv).1
  rw [← hc, List.getElem?_take_of_lt hj, List.getElem?_drop] at hv
  simpa using hv
theorem ev_load_ag {t : TypeId} {b o : Nat} {c : Array Value} {cs : List Value} {n : Nat} [hs : Ag P t n] (h : Blk w b c) (hn : cs.length = n) (hc : (c.toList.drop o).take cs.length = cs) :
    Ev P (.load t (.pointer (some ⟨b, o, none⟩))) w (.agg cs.toArray) := by
  subst hn
  have h1 := run_isAgg_ag (w := w) hs
  obtain ⟨_, i, h2, h3⟩ := hs.out
  have h4 := loadCells_blk (P := P) h hc
  have h5 : (loadVar t ⟨b, o, none⟩).run P w = .ok (.agg cs.toArray) w := by
    simp [loadVar, Sem.run_bind, h1, sizeOf, typeInfo, h2, h3, h4]
  simp only [Ev, VOp.sem, Instr.loadAt, Instr.sureAddr, pure_bind]
  rw [Sem.run_bind, h5]
  rfl

/-- A struct's field as a value's part: of one cell. -/
class Ft (P : Program) (t : TypeId) (i : Nat) (off : outParam Nat) (ft : outParam TypeId) : Prop where
  out : ∃ fs f, P.underlying t = some (.struct fs) ∧ fs[i]? = some f ∧ f.offset = off ∧ f.type = ft
theorem ev_fld {t ft : TypeId} {i off : Nat} {c : Array Value} [h : Ft P t i off ft] [hs : Sc P ft] (hv : c[off]? = some v) : Ev P (.fld t (.agg c) i) w v := by
  obtain ⟨fs, f, h1, h2, rfl, rfl⟩ := h.out
  have h3 := run_isAgg_sc (w := w) hs
  have h4 : (part f.type c f.offset).run P w = .ok v w := by simp [part, Sem.run_bind, h3, hv]
  have h5 : (Instr.field t (.agg c) i).run P w = .ok v w := by
    simp [Instr.field, Sem.run_bind, run_underlying h1, h2, asAgg, h4]
  simp only [Ev, VOp.sem]
  rw [Sem.run_bind, h5]
  rfl
theorem ev_fld_ag {t ft : TypeId} {i off n : Nat} {c : Array Value} [h : Ft P t i off ft] [hs : Ag P ft n] : Ev P (.fld t (.agg c) i) w (.agg (c.extract off (off + n))) := by
  obtain ⟨fs, f, h1, h2, rfl, rfl⟩ := h.out
  have h3 := run_isAgg_ag (w := w) hs
  obtain ⟨_, j, h6, h7⟩ := hs.out
  have h4 : (part f.type c f.offset).run P w = .ok (.agg (c.extract f.offset (f.offset + n))) w := by simp [part, Sem.run_bind, h3, sizeOf, typeInfo, h6, h7]
  have h5 : (Instr.field t (.agg c) i).run P w = .ok (.agg (c.extract f.offset (f.offset + n))) w := by
    simp [Instr.field, Sem.run_bind, run_underlying h1, h2, asAgg, h4]
  simp only [Ev, VOp.sem]
  rw [Sem.run_bind, h5]
  rfl

/-! Slice expressions -/
theorem ev_slice_lh {t e : TypeId} {m n c : Nat} {kl kh : IntKind} {b o y : Nat} {z : Value} {l h : Int} [hs : Sl P t e m y z] (h0 : 0 ≤ l) (h1 : l ≤ h) (h2 : h ≤ c) :
    Ev P (.slice t (.slice (some ⟨b, o, none⟩) n c) (some (.int kl l)) (some (.int kh h)) none) w (.slice (some (if c = l.toNat then ⟨b, o, none⟩ else ⟨b, o + l.toNat * m, none⟩)) (h.toNat - l.toNat) (c - l.toNat)) := by
  obtain ⟨hu, i, hi, hm, _⟩ := hs.out
  have h5 : (Instr.sliceAt t (.slice (some ⟨b, o, none⟩) n c) (some (.int kl l)) (some (.int kh h)) none).run P w = .ok (.slice (some (if c = l.toNat then ⟨b, o, none⟩ else ⟨b, o + l.toNat * m, none⟩)) (h.toNat - l.toNat) (c - l.toNat)) w := by
    have e1 := run_sliceBound (P := P) w kh h c .sliceAcap (by omega) h2
    have e2 := run_sliceBound (P := P) w kl l h.toNat .sliceB h0 (by omega)
    simp [Instr.sliceAt, Instr.slice, Instr.sliceBounds, Sem.run_bind, run_underlying hu, e1, e2, sizeOf, typeInfo, hi, hm, addr_add]
    split <;> simp
  simp only [Ev, VOp.sem]
  rw [Sem.run_bind, h5]
  rfl
theorem ev_sslice {t : TypeId} {l : List UInt8} {kl kh : IntKind} {i j : Int} [h : Str P t] (h0 : 0 ≤ i) (h1 : i ≤ j) (h2 : j ≤ l.length) :
    Ev P (.slice t (str l) (some (.int kl i)) (some (.int kh j)) none) w (str ((l.take j.toNat).drop i.toNat)) := by
  have h5 : (Instr.sliceAt t (str l) (some (.int kl i)) (some (.int kh j)) none).run P w = .ok (str ((l.take j.toNat).drop i.toNat)) w := by
    have e1 := run_sliceBound (P := P) w kh j (bs l).size .sliceAlen (by omega) (by rw [bs_size]; exact h2)
    have e2 := run_sliceBound (P := P) w kl i j.toNat .sliceB h0 (by omega)
    have e3 : (bs l).extract i.toNat j.toNat = bs ((l.take j.toNat).drop i.toNat) := by
      apply ByteArray.ext
      simp only [bs, ByteArray.data_extract, List.extract_toArray, List.extract_eq_take_drop, List.drop_take]
    simp [Instr.sliceAt, Instr.slice, Instr.sliceBounds, Sem.run_bind, run_underlying h.out, e1, e2, str, e3]
  simp only [Ev, VOp.sem]
  rw [Sem.run_bind, h5]
  rfl
end
attribute [irreducible] Ev
end Go.Rv
