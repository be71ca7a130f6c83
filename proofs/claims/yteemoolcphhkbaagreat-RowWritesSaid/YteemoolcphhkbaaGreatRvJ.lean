/- Part of the proof that YteemoolcphhkbaaGreat holds whatever the input: a text of contracts, laws and steps; no condition. -/
import Derived.Test.YteemoolcphhkbaaGreatRvI
import Derived.Laws.IdiomStrings
set_option linter.all false
set_option autoImplicit false
namespace Go.Rv
open Go.RowKit
/-! ### Bytes and strings; arrays as slices; closures; slice expressions with one bound -/
def u8 (b : UInt8) : Value := .int .u8 b.toNat
def u8s (l : List UInt8) : List Value := l.map u8
theorem u8s_len (l : List UInt8) : (u8s l).length = l.length := by simp [u8s]
theorem u8_one (l : List UInt8) : ((u8s l).all fun x => x.oneCell') = true := by
  rw [List.all_eq_true]
  intro x hx
  obtain ⟨b, _, rfl⟩ := List.mem_map.1 hx
  rfl
section
variable {P : Program} {J : World → Prop} {U : Nat → Prop} {w : World} {l : List Rs} {k : KV}
/-- A slice type of bytes. -/
class By (P : Program) (t : TypeId) (e : outParam TypeId) : Prop where
  out : P.underlying t = some (.slice e) ∧ P.underlying e = some (.int .u8)
def u8B (d : Option TypeDesc) : Bool := match d with | some (.int .u8) => true | _ => false
theorem by_of {t e : TypeId} (h : slB (P.underlying t) e = true) (h8 : u8B (P.underlying e) = true) : By P t e := by
  unfold slB at h
  split at h
  · rename_i e' hd
    have := Nat.eq_of_beq_eq_true h
    subst this
    refine ⟨hd, ?_⟩
    unfold u8B at h8
    split at h8
    · assumption
    · cases h8
  · cases h
theorem ev_b2s {s t e : TypeId} {b o n cap : Nat} {c : List Value} {x : List UInt8} [h : By P s e] [hs : Str P t] (hb : BlkL w b c) (hc : (c.drop o).take n = u8s x) (hn : x.length = n) :
    Ev P (.conv s t (.slice (some ⟨b, o, none⟩) n cap)) w (str x) := by
  subst hn
  have h1 : (convert s t (.slice (some ⟨b, o, none⟩) x.length cap)).run P w = .ok (.string ⟨x.toArray⟩) w := by
    refine run_convert_bytes_back (P := P) w s t e ⟨b, o, none⟩ cap x h.out.1 h.out.2 hs.out fun j hj => ?_
    rw [addr_add]
    refine hb.cell ?_
    have h2 : ((c.drop o).take x.length)[j]? = (u8s x)[j]? := by rw [hc]
    rw [List.getElem?_take_of_lt hj, List.getElem?_drop] at h2
    simp only [List.getElem?_toArray]
    rw [h2]
    simp [u8s, u8, hj]
  unfold Ev
  simp only [VOp.sem]
  rw [Sem.run_bind, h1]
  rfl
theorem D_s2b (hJ : Jst J U) (H : Cur J U w l) {s t e : TypeId} {x : List UInt8} [h : By P t e] [hs : Str P s]
    (hk : ∀ w' b cap, x.length ≤ cap → Cur J U w' (l ++ [.b b (.cells (u8s x ++ List.replicate (cap - x.length) (Value.int .u8 0)).toArray e (cap, cap + 1))]) → k (.slice (some ⟨b, 0, none⟩) x.length cap) w') :
    D P (.conv s t (str x)) k w := by
  have h1 := run_bytes_of_string (P := P) w s t e (bs x) hs.out h.out.1 h.out.2
  have hge : x.length ≤ grownCap w (bs x).size 0 e := by
    have := grownCap_ge w (bs x).size 0 e
    rw [bs_size] at *; exact this
  have hrow : bytesRow (bs x) (grownCap w (bs x).size 0 e) = (u8s x ++ List.replicate (grownCap w (bs x).size 0 e - x.length) (Value.int .u8 0)).toArray := by
    simp [bytesRow, bs, u8s, ByteArray.size]
    intro a _; rfl
  have hsz : (bytesRow (bs x) (grownCap w (bs x).size 0 e)).size = grownCap w (bs x).size 0 e := by
    rw [hrow]; simp [u8s]; omega
  rw [hsz, hrow] at h1
  generalize grownCap w (bs x).size 0 e = cap at *
  rw [bs_size] at h1
  have hr : (VOp.sem (.conv s t (str x))).run P w = .ok (.value (.slice (some ⟨w.heap.size, 0, none⟩) x.length cap)) (w.drew.alloc (.cells (u8s x ++ List.replicate (cap - x.length) (Value.int .u8 0)).toArray e (cap, cap + 1))) := by
    simp only [VOp.sem, str]
    rw [Sem.run_bind, h1]
    rfl
  refine D_run hr (hk _ _ _ hge ?_)
  have H1 := H.step hJ (w' := w.drew) ⟨rfl, rfl, rfl, Nat.le_refl _, fun _ _ _ => rfl⟩
  exact add_alloc hJ H1 _
theorem ev_s2ap {t e : TypeId} {n m len cap : Nat} {a : Option Addr} [h : Ar P t n e m] (hl : n ≤ len) : Ev P (.s2ap t (.slice a len cap)) w (.pointer a) := by
  have hl' : ¬ len < n := by omega
  unfold Ev
  simp [VOp.sem, Instr.arrayAt, Sem.run_bind, run_underlying h.out.1, hl']
theorem ev_slice_ar {t e : TypeId} {n m b o : Nat} [h : Ar P t n e m] : Ev P (.slice t (.pointer (some ⟨b, o, none⟩)) none none none) w (.slice (some ⟨b, o, none⟩) n n) := by
  obtain ⟨h1, j, h2, h3⟩ := h.out
  unfold Ev
  simp [VOp.sem, Instr.sliceAt, Instr.sliceBounds, Instr.sureAddr, Sem.run_bind, run_underlying h1, sizeOf, typeInfo, h2, addr_add]
theorem ev_mkFn {f : Fn} {a c : List Value} : Ev P (.mkFn f a c) w (.func f a.toArray c.toArray) := by
  unfold Ev
  simp [VOp.sem, Instr.makeFunc, Sem.run_bind]
/-- `s[l:]`, `s[:h]` -/
theorem ev_slice_l {t e : TypeId} {m n c : Nat} {kl : IntKind} {b o y : Nat} {z : Value} {i : Int} [hs : Sl P t e m y z] (h0 : 0 ≤ i ∧ i ≤ n ∧ n ≤ c) :
    Ev P (.slice t (.slice (some ⟨b, o, none⟩) n c) (some (.int kl i)) none none) w (.slice (some (if c = i.toNat then ⟨b, o, none⟩ else ⟨b, o + i.toNat * m, none⟩)) (n - i.toNat) (c - i.toNat)) := by
  obtain ⟨hu, j, hi, hm, _⟩ := hs.out
  have e2 := run_sliceBound (P := P) w kl i n .sliceB h0.1 (by omega)
  unfold Ev
  simp [VOp.sem, Instr.sliceAt, Instr.slice, Instr.sliceBounds, Sem.run_bind, run_underlying hu, e2, sizeOf, typeInfo, hi, hm, addr_add]
  split <;> simp
theorem ev_slice_h {t e : TypeId} {m n c : Nat} {kh : IntKind} {a : Option Addr} {y : Nat} {z : Value} {i : Int} [hs : Sl P t e m y z] (h0 : 0 ≤ i ∧ i ≤ c) :
    Ev P (.slice t (.slice a n c) none (some (.int kh i)) none) w (.slice a i.toNat c) := by
  obtain ⟨hu, j, hi, hm, _⟩ := hs.out
  have e1 := run_sliceBound (P := P) w kh i c .sliceAcap h0.1 h0.2
  unfold Ev
  simp [VOp.sem, Instr.sliceAt, Instr.slice, Instr.sliceBounds, Sem.run_bind, run_underlying hu, e1, sizeOf, typeInfo, hi, hm, addr_add]
  cases a with
  | none => simp
  | some a => intro _; cases a; unfold Addr.add; split <;> simp_all
theorem ev_sslice_h {t : TypeId} {x : List UInt8} {kh : IntKind} {i : Int} [h : Str P t] (h0 : 0 ≤ i ∧ i ≤ x.length) :
    Ev P (.slice t (str x) none (some (.int kh i)) none) w (str (x.take i.toNat)) := by
  have e1 := run_sliceBound (P := P) w kh i (bs x).size .sliceAlen h0.1 (by rw [bs_size]; exact h0.2)
  have e3 : (bs x).extract 0 i.toNat = bs (x.take i.toNat) := by
    apply ByteArray.ext
    simp only [bs, ByteArray.data_extract, List.extract_toArray, List.extract_eq_take_drop, List.drop_zero, Nat.sub_zero]
  unfold Ev
  simp [VOp.sem, Instr.sliceAt, Instr.slice, Instr.sliceBounds, Sem.run_bind, run_underlying h.out, e1, str, e3]
theorem ev_sslice_l {t : TypeId} {x : List UInt8} {kl : IntKind} {i : Int} [h : Str P t] (h0 : 0 ≤ i ∧ i ≤ x.length) :
    Ev P (.slice t (str x) (some (.int kl i)) none none) w (str (x.drop i.toNat)) := by
  have e1 := run_sliceBound (P := P) w kl i (bs x).size .sliceB h0.1 (by rw [bs_size]; exact h0.2)
  have e3 : (bs x).extract i.toNat (bs x).size = bs (x.drop i.toNat) := by
    apply ByteArray.ext
    simp only [bs, ByteArray.data_extract, List.extract_toArray, List.extract_eq_take_drop, ByteArray.size, List.size_toArray]
    congr 1
    rw [← List.length_drop, List.take_length]
  unfold Ev
  simp [VOp.sem, Instr.sliceAt, Instr.slice, Instr.sliceBounds, Sem.run_bind, run_underlying h.out, e1, str, e3]
end
end Go.Rv
