/- Part of the proof that YteemoolcphhkbaaGreat holds whatever the input: a text of contracts, laws and steps; no condition. -/
import Derived.Test.YteemoolcphhkbaaGreatRvK
set_option linter.all false
set_option autoImplicit false
namespace Go.Rv
open Go.RowKit
/-! ### Drives: what they are -/
abbrev Sec := List UInt8
def blank : Sec := List.replicate 64 0
structure Drv where
  safe : List Sec
  wr : Int → List Sec
  sp : Int → Bool
  dead : Bool
  power : Option Nat
namespace Drv
def n (D : Drv) : Nat := D.safe.length
def may (D : Drv) (i : Int) : Int := if D.dead then 40 else if D.power = some 0 then 42 else if i < 0 ∨ (D.n : Int) ≤ i then 70 else 0
def val (D : Drv) (i : Int) : Sec := ((D.wr i).getLast?).getD (D.safe[i.toNat]?.getD [])
def read (D : Drv) (i : Int) : Sec × Int := if D.may i ≠ 0 then ([], D.may i) else if D.sp i then ([], 41) else (D.val i, 0)
def upd {β : Type} (f : Int → β) (i : Int) (v : β) : Int → β := fun j => if j = i then v else f j
def use (D : Drv) : Drv := { D with power := D.power.map (· - 1) }
def write (D : Drv) (i : Int) (x : Sec) : Drv := { D.use with wr := upd D.wr i (D.wr i ++ [x]), sp := upd D.sp i false }
def spoil (D : Drv) (i : Int) : Drv := { D with sp := upd D.sp i true }
def settled (D : Drv) (m : Int → Nat) : Drv := { D with safe := D.safe.mapIdx fun i x => if m i = 0 then x else ((D.wr i)[m i - 1]?).getD x, wr := fun _ => [] }
def flush (D : Drv) : Drv := (D.use).settled fun i => (D.wr i).length
def fresh (k : Nat) : Drv := ⟨List.replicate k blank, fun _ => [], fun _ => false, false, none⟩
/-- All is of the right size. -/
structure ok (D : Drv) : Prop where
  big : D.n ≤ 4096
  safe : ∀ x ∈ D.safe, x.length = 64
  wr : ∀ i, ∀ x ∈ D.wr i, x.length = 64
  out : ∀ i, (i < 0 ∨ (D.n : Int) ≤ i) → D.wr i = []
end Drv

/-- Where a drive of the program lies. -/
structure DP where
  b : Nat
  bs : Nat
  bw : Nat
  bp : Nat
  ty : TypeId
  ts : TypeId
  es : List MapEntry
  c : Nat
  es2 : List MapEntry
  c2 : Nat
  left : Int
  te : TypeId
  D : Drv
namespace DP
variable (p : DP)
def head : List Value := [.slice (some ⟨p.bs, 0, none⟩) p.D.n p.D.n, .map (some p.bw), .map (some p.bp), .bool p.D.dead, .int .i64 p.left, .bool p.D.power.isSome]
def row (e : MapEntry) : Rs := .s e.val p.te 64 (p.D.wr (keyI e.key)).length ((p.D.wr (keyI e.key)).flatMap u8s)
def parts : List Rs := [.b p.b (.cells p.head.toArray p.ty), .b p.bs (.cells (p.D.safe.flatMap u8s).toArray p.ts), .b p.bw (.map p.es.toArray p.c), .b p.bp (.map p.es2.toArray p.c2)] ++ p.es.map p.row
def r : Rs := .all p.parts
structure good (te : TypeId) : Prop where
  D : p.D.ok
  e : p.te = te
  m : MapI p.es p.c
  m2 : MapI p.es2 p.c2
  out : ∀ x, mget p.es x = none → p.D.wr x = []
  ne : ∀ x v, mget p.es x = some v → p.D.wr x ≠ []
  sp : ∀ x, mget p.es2 x = if p.D.sp x then some (.bool true) else none
  left : -9223372036854775808 ≤ p.left ∧ p.left ≤ 9223372036854775807
  pow : ∀ k, p.D.power = some k → p.left = (k : Int)
end DP
theorem flat_take {l : List Sec} (h : ∀ x ∈ l, x.length = 64) : ∀ {i : Nat} {x : Sec}, l[i]? = some x → ((l.flatMap u8s).drop (i * 64)).take 64 = u8s x := by
  induction l with
  | nil => intro i x hx; simp at hx
  | cons a l ih =>
    intro i x hx
    have ha := h a (List.mem_cons_self ..)
    cases i with
    | zero =>
      simp only [List.getElem?_cons_zero, Option.some.injEq] at hx
      subst hx
      simp only [Nat.zero_mul, List.drop_zero, List.flatMap_cons]
      rw [List.take_append_of_le_length (by simp [u8s_len, ha]), List.take_of_length_le (by simp [u8s_len, ha])]
    | succ i =>
      simp only [List.getElem?_cons_succ] at hx
      have e : (i + 1) * 64 = (u8s a).length + i * 64 := by rw [u8s_len, ha]; omega
      rw [List.flatMap_cons, e, ← List.drop_drop, List.drop_left]
      exact ih (fun x hx => h x (List.mem_cons_of_mem _ hx)) hx
theorem flat_len {l : List Sec} (h : ∀ x ∈ l, x.length = 64) : (l.flatMap u8s).length = l.length * 64 := by
  induction l with
  | nil => rfl
  | cons a l ih =>
    rw [List.flatMap_cons, List.length_append, u8s_len, h a (List.mem_cons_self ..), ih fun x hx => h x (List.mem_cons_of_mem _ hx), List.length_cons]
    omega
section
variable {J : World → Prop} {U : Nat → Prop} {w w0 : World} {l : List Rs}
theorem DP.facts {p : DP} (h : p.r.ok w) : BlkL w p.b p.head ∧ BlkL w p.bs (p.D.safe.flatMap u8s) ∧ w.heap[p.bw]? = some (.map p.es.toArray p.c) ∧ w.heap[p.bp]? = some (.map p.es2.toArray p.c2) ∧ ∀ e ∈ p.es, (p.row e).ok w := by
  unfold DP.r at h
  rw [all_ok] at h
  have h := h.1
  unfold DP.parts at h
  refine ⟨⟨p.ty, (0, 0), ?_⟩, ⟨p.ts, (0, 0), ?_⟩, ?_, ?_, fun e he => h _ (by simp; exact .inr (.inr (.inr (.inr ⟨e, he, rfl⟩))))⟩
  · have := h (.b p.b (.cells p.head.toArray p.ty)) (by simp)
    rwa [b_ok] at this
  · have := h (.b p.bs (.cells (p.D.safe.flatMap u8s).toArray p.ts)) (by simp)
    rwa [b_ok] at this
  · have := h (.b p.bw (.map p.es.toArray p.c)) (by simp)
    rwa [b_ok] at this
  · have := h (.b p.bp (.map p.es2.toArray p.c2)) (by simp)
    rwa [b_ok] at this
theorem mget_mem {x : Int} {v : Value} : ∀ {es : List MapEntry}, mget es x = some v → ∃ e ∈ es, keyI e.key = x ∧ e.val = v
  | [], h => by cases h
  | e :: es, h => by
    unfold mget at h
    split at h
    · cases h; exact ⟨e, List.mem_cons_self .., by assumption, rfl⟩
    · obtain ⟨e', h1, h2⟩ := mget_mem h
      exact ⟨e', List.mem_cons_of_mem _ h1, h2⟩
/-- The slice that the map of writes holds for a sector. -/
theorem DP.look_rows {p : DP} {te : TypeId} (hg : p.good te) (hr : ∀ e ∈ p.es, (p.row e).ok w) (i : Int) : ((mget p.es i).getD (.slice none 0 0) = .slice none 0 0 ∧ p.D.wr i = []) ∨
    ∃ g cap cur, (mget p.es i).getD (.slice none 0 0) = .slice (some ⟨g, 0, none⟩) (p.D.wr i).length cap ∧ (p.D.wr i).length ≤ 9223372036854775807 ∧ BlkL w g cur ∧ ∀ j x, (p.D.wr i)[j]? = some x → (cur.drop (j * 64)).take 64 = u8s x := by
  cases hm : mget p.es i with
  | none => exact .inl ⟨rfl, hg.out i hm⟩
  | some v =>
    obtain ⟨e, he, hk, rfl⟩ := mget_mem hm
    have h2 := hr e he
    unfold DP.row at h2
    rw [s_ok, hk] at h2
    obtain ⟨hl, ⟨hv, h0⟩ | ⟨g, cap, cur, hv, _, hb, hn, hmx, hs, ht⟩⟩ := h2
    · exact .inl ⟨hv, List.length_eq_zero_iff.1 h0⟩
    · refine .inr ⟨g, cap, cur.toList, hv, (by unfold maxLen at hmx; omega), ⟨p.te, (0, 0), by simpa using hb⟩, fun j x hx => ?_⟩
      have hj : j < (p.D.wr i).length := (List.getElem?_eq_some_iff.1 hx).1
      have := flat_take (hg.D.wr i) hx
      rw [← ht, List.drop_take, List.take_take] at this
      rw [← this]
      congr 1
      rw [Nat.min_eq_left]
      have : (j + 1) * 64 ≤ (p.D.wr i).length * 64 := Nat.mul_le_mul_right _ hj
      omega
theorem DP.look {p : DP} {te : TypeId} (hg : p.good te) (h : p.r.ok w) (i : Int) : ((mget p.es i).getD (.slice none 0 0) = .slice none 0 0 ∧ p.D.wr i = []) ∨
    ∃ g cap cur, (mget p.es i).getD (.slice none 0 0) = .slice (some ⟨g, 0, none⟩) (p.D.wr i).length cap ∧ (p.D.wr i).length ≤ 9223372036854775807 ∧ BlkL w g cur ∧ ∀ j x, (p.D.wr i)[j]? = some x → (cur.drop (j * 64)).take 64 = u8s x :=
  DP.look_rows hg (p.facts h).2.2.2.2 i
theorem ev_look_eq {P : Program} {t kt e : TypeId} {z v : Value} {b clock : Nat} {es : List MapEntry} {x : Int} [h : Mp P t kt e z] (hb : w.heap[b]? = some (.map es.toArray clock)) (hm : MapI es clock) (hv : (mget es x).getD z = v) :
    Ev P (.look t (.map (some b)) (.int .i64 x) false) w v := hv ▸ ev_look hb hm
theorem old_h {k : Nat} {o : Obj} (H : Cur (Below w0.heap.size w0) U w l) (h : w0.heap[k]? = some o) : w.heap[k]? = some o := by
  rw [H.j.block k (Array.getElem?_eq_some_iff.1 h).1]; exact h
theorem ev_b2s_o {P : Program} {s t e : TypeId} {b o n cap : Nat} {c : List Value} {x : List UInt8} [h : By P s e] [hs : Str P t] (H : Cur (Below w0.heap.size w0) U w l) (hb : BlkL w0 b c) (hc : (c.drop o).take n = u8s x) (hn : x.length = n) :
    Ev P (.conv s t (.slice (some ⟨b, o, none⟩) n cap)) w (str x) := ev_b2s (old_b H hb) hc hn
end
end Go.Rv
