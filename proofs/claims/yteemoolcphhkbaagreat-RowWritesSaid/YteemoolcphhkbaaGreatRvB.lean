/- Part of the proof that YteemoolcphhkbaaGreat holds whatever the input: a text of contracts, laws and steps; no condition. -/
import Derived.Test.YteemoolcphhkbaaGreatRvA
import Derived.Laws.Sem
set_option linter.all false
set_option autoImplicit false
namespace Go.Rv

/-! ### Code -/

def Cnd0 (v : Value) (p q : Prop) : Prop :=
  match v with
  | .bool b => cond b p q
  | _ => False
structure Cnd (v : Value) (p q : Prop) : Prop where
  out : Cnd0 v p q
structure Join (K : List Value → World → Prop) (B : (List Value → World → Prop) → Prop) : Prop where
  out : ∃ I : List Value → World → Prop, (∀ vs w, I vs w → K vs w) ∧ B I
structure Lp (init : List Value) (w : World) (B : (List Value → World → Prop) → List Value → World → Prop) : Prop where
  out : ∃ (I : List Value → World → Prop) (μ : List Value → World → Nat), I init w ∧ ∀ vs w, I vs w → B (fun vs' w' => I vs' w' ∧ μ vs' w' < μ vs w) vs w

abbrev QE := Exit → Env → World → Prop
def thenE (next : Env → World → Prop) (Q : QE) : QE
  | .normal, e, w => next e w
  | ex, e, w => Q ex e w
def blockE (id : Nat) (Q : QE) : QE
  | .exit id', e, w => cond (Nat.beq id' id) (Q .normal e w) (Q (.exit id') e w)
  | ex, e, w => Q ex e w

def tmpB : Operand → Nat
  | .tmp t => 1 <<< t
  | _ => 0
def bitsT : List Tmp → Nat
  | [] => 0
  | t :: l => 1 <<< t ||| bitsT l
def del (m : Nat) (d : Option Tmp) : Nat := m ^^^ (m &&& bit d)
def liveOps (ops : List Oper) : List Oper → Nat → Nat
  | [], L => L
  | o :: l, L => bitsT (looks ops o) ||| del (liveOps ops l L) o.dst
/-- The slots that some of the operations in Z write. -/
def dstsOf : List Oper → Nat → Nat → Nat
  | [], _, _ => 0
  | o :: l, i, Z => cond (Z.testBit i) (bit o.dst ||| dstsOf l (i + 1) Z) (dstsOf l (i + 1) Z)
def minus (a b : Nat) : Nat := a ^^^ (a &&& b)
def genDraw (ops : List Oper) : List Oper → List Nat → Nat
  | o :: l, a :: A => minus (bitsT (looks ops o)) (dstsOf ops 0 a) ||| genDraw ops l A
  | _, _ => 0
def liveC : Code → Nat → Nat
  | .region _ ops draw, L => cond draw (genDraw ops.toList ops.toList (ancL ops.toList []) ||| minus L (wrOps ops.toList)) (liveOps ops.toList ops.toList L)
  | .seq x y, L => liveC x (liveC y L ||| L)
  | .cond c x y, L => tmpB c ||| (liveC x L ||| liveC y L)
  | .block _ c, L => liveC c L
  | .loop c, L => liveC c L ||| L
  | _, L => L
def wrC : Code → Nat
  | .region _ ops _ => wrOps ops.toList
  | .seq x y => wrC x ||| wrC y
  | .cond _ x y => wrC x ||| wrC y
  | .block _ c => wrC c
  | .loop c => wrC c
  | _ => 0
def exitsN (id : Nat) : Code → Nat
  | .exit id' => cond (Nat.beq id' id) 1 0
  | .seq x y => exitsN id x + exitsN id y
  | .cond _ x y => exitsN id x + exitsN id y
  | .block id' c => cond (Nat.beq id' id) 0 (exitsN id c)
  | .loop c => exitsN id c
  | _ => 0
def falls : Code → Nat
  | .skip | .region _ _ _ | .label _ => 1
  | .seq x y => cond (Nat.beq (falls x) 0) 0 (falls y)
  | .cond _ x y => falls x + falls y
  | .block id c => falls c + exitsN id c
  | _ => 0
def bitsL (m : Nat) : Nat → List Nat
  | 0 => []
  | n + 1 => cond (m.testBit n) (n :: bitsL m n) (bitsL m n)
def over (e : Env) (vs : List Value) : List Nat → Nat → Env
  | [], _ => e
  | m :: M, i => fun t => cond (Nat.beq t m) (g vs i) (over e vs M (i + 1) t)
def mapL (e : Env) : List Nat → List Value
  | [] => []
  | m :: M => e m :: mapL e M
def drw (w : World) : World := { w with drawn := w.drawn + 1 }
structure Dr (w : World) (k : World → Prop) : Prop where
  out : k (drw w)

def sem (P : Program) (N : Nat) : Code → Nat → QE → Env → World → Prop
  | .skip, _, Q => fun e w => Q .normal e w
  | .label _, _, Q => fun e w => Q .normal e w
  | .region _ ops draw, _, Q => fun e w => cond draw (Dr w fun w' => drawE P ops e w' (Q .normal)) (opsE P ops ops.toList e w (Q .normal))
  | .seq x y, L, Q => fun e w =>
    cond (Nat.ble (falls x) 1) (sem P N x (liveC y L ||| L) (thenE (sem P N y L Q) Q) e w)
      (Join (fun vs w' => sem P N y L Q (over e vs (bitsL (wrC x &&& liveC y L) N) 0) w')
        fun k => sem P N x (liveC y L ||| L) (thenE (fun e' w' => k (mapL e' (bitsL (wrC x &&& liveC y L) N)) w') Q) e w)
  | .cond c x y, L, Q => fun e w => Cnd (evE e c) (sem P N x L Q e w) (sem P N y L Q e w)
  | .block id c, L, Q => fun e w => sem P N c L (blockE id Q) e w
  | .loop c, L, Q => fun e w =>
    Lp (mapL e (bitsL (wrC c &&& (liveC c L ||| L)) N)) w fun k vs w' =>
      sem P N c (liveC c L ||| L) (thenE (fun e' w'' => k (mapL e' (bitsL (wrC c &&& (liveC c L ||| L)) N)) w'') Q) (over e vs (bitsL (wrC c &&& (liveC c L ||| L)) N) 0) w'
  | .exit id, _, Q => fun e w => Q (.exit id) e w
  | .ret, _, Q => fun e w => Q .ret e w
  | _, _, _ => fun _ _ => False

def okC (n : Nat) : Code → Bool
  | .region _ ops draw => ops.toList.all (dstOk n) && cond draw (drawOk ops.toList) true
  | .seq x y => okC n x && okC n y
  | .cond _ x y => okC n x && okC n y
  | .block _ c => okC n c
  | .loop c => okC n c
  | _ => true

/-! #### What is not read does not matter -/

def Eqv (L : Nat) (e e' : Env) : Prop := ∀ t, L.testBit t = true → e t = e' t
theorem Eqv.mono {L L' : Nat} {e e' : Env} (h : Eqv L' e e') (hs : ∀ t, L.testBit t = true → L'.testBit t = true) : Eqv L e e' := fun t ht => h t (hs t ht)
theorem Eqv.left {L L' : Nat} {e e' : Env} (h : Eqv (L ||| L') e e') : Eqv L e e' := h.mono fun t ht => by rw [Nat.testBit_or, ht, Bool.true_or]
theorem Eqv.right {L L' : Nat} {e e' : Env} (h : Eqv (L ||| L') e e') : Eqv L' e e' := h.mono fun t ht => by rw [Nat.testBit_or, ht, Bool.or_true]
theorem Eqv.symm {L : Nat} {e e' : Env} (h : Eqv L e e') : Eqv L e' e := fun t ht => (h t ht).symm
theorem Eqv.putE {L : Nat} {e e' : Env} (h : Eqv L e e') (d : Option Tmp) (v : Value) : Eqv L (putE e d v) (putE e' d v) := by
  cases d with
  | none => exact h
  | some d =>
    intro t ht
    simp only [Rv.putE]
    by_cases h1 : t = d
    · subst h1; rw [upd_same, upd_same]
    · rw [upd_other _ _ h1, upd_other _ _ h1]; exact h t ht
theorem bitsT_mem {t : Nat} : ∀ {l : List Tmp}, t ∈ l → (bitsT l).testBit t = true
  | u :: l, h => by
    simp only [bitsT, Nat.testBit_or, Bool.or_eq_true]
    rcases List.mem_cons.1 h with rfl | h
    · exact .inl (testBit_one_shl.2 rfl)
    · exact .inr (bitsT_mem h)
theorem del_bit {m : Nat} {d : Option Tmp} {t : Nat} : (del m d).testBit t = true ↔ m.testBit t = true ∧ d ≠ some t := by
  unfold del
  have h := testBit_bit d t
  rw [Nat.testBit_xor, Nat.testBit_and, Ne, ← h]
  cases m.testBit t <;> cases (bit d).testBit t <;> simp
theorem minus_bit {a b t : Nat} : (minus a b).testBit t = true ↔ a.testBit t = true ∧ b.testBit t = false := by
  unfold minus
  rw [Nat.testBit_xor, Nat.testBit_and]
  cases a.testBit t <;> cases b.testBit t <;> simp
theorem or_r {a b t : Nat} (h : b.testBit t = true) : (a ||| b).testBit t = true := by rw [Nat.testBit_or, h, Bool.or_true]
theorem or_l {a b t : Nat} (h : a.testBit t = true) : (a ||| b).testBit t = true := by rw [Nat.testBit_or, h, Bool.true_or]

section
variable {P : Program}

theorem D_mono {k1 k2 : KV} (h12 : ∀ v w, k1 v w → k2 v w) {vo : VOp} {w : World} (h : D P vo k1 w) : D P vo k2 w := by
  refine ⟨?_⟩
  replace h := h.out
  unfold D0 at *
  generalize (VOp.sem vo).run P w = res at *
  cases res with
  | halt x w' => exact h
  | ok x w' =>
    cases x <;> first | exact h12 _ _ h | exact h | skip
    · exact Calls.mono h fun e w he => by cases e <;> first | exact h12 _ _ he | exact he
    · exact RoundIn.mono h fun e w he => by cases e <;> first | exact h12 _ _ he | exact he

theorem stepE_mono {ops : Array Oper} {o : Oper} {e : Env} {w : World} {k1 k2 : KV} (h12 : ∀ v w, k1 v w → k2 v w) (h : stepE P ops o e w k1) : stepE P ops o e w k2 := by
  unfold stepE at *
  cases hg : o.guard with
  | none =>
    rw [hg] at h
    simp only at h ⊢
    rcases isMv_cases o.op with ⟨x, hx⟩ | hm
    · unfold opE at *; rcases hx with hx | hx <;> rw [hx] at h ⊢ <;> exact h12 _ _ h
    · rw [opE_eq hm] at *; exact D_mono h12 h
  | some jw =>
    obtain ⟨j, want⟩ := jw
    rw [hg] at h
    simp only at h ⊢
    cases hj : ops.toList[j]? with
    | none => rw [hj] at h; exact h.elim
    | some oj =>
      rw [hj] at h
      simp only at h ⊢
      cases hd : oj.dst with
      | none => rw [hd] at h; exact h.elim
      | some d =>
        rw [hd] at h
        simp only at h ⊢
        rcases isMv_cases o.op with ⟨x, hx⟩ | hm
        · unfold gopE at *
          rcases hx with hx | hx <;> rw [hx] at h ⊢ <;> refine ⟨?_⟩ <;> replace h := h.out <;> simp only [GM0] at h ⊢ <;> (split at h <;> first | exact h12 _ _ h | exact h)
        · rw [gopE_eq hm] at *
          refine ⟨?_⟩
          replace h := h.out
          unfold GD0 at *
          split at h
          · rename_i b hb
            cases hbw : b == want with
            | true => rw [hbw] at h; exact D_mono h12 h
            | false => rw [hbw] at h; exact h12 _ _ h
          · exact h

theorem opsE_dep {ops : Array Oper} {L : Nat} {k k' : Env → World → Prop} (hk : ∀ e e' w, Eqv L e e' → k e w → k' e' w) :
    ∀ (l : List Oper) (e e' : Env) (w : World), Eqv (liveOps ops.toList l L) e e' → opsE P ops l e w k → opsE P ops l e' w k' := by
  intro l
  induction l with
  | nil => intro e e' w he h; exact hk e e' w he h
  | cons o l ih =>
    intro e e' w he h
    refine stepE_mono (fun v w' hv => ?_) (stepE_congr (fun t ht => he.left t (bitsT_mem ht)) h)
    refine ih _ _ _ (fun t ht => ?_) hv
    by_cases hd : o.dst = some t
    · rw [hd]; simp only [putE, upd_same]
    · rw [putE_other hd, putE_other hd]
      exact he.right t (del_bit.2 ⟨ht, hd⟩)
end

section
variable {P : Program}

theorem stepF_eq {ops : List Oper} {o : Oper} {e : Env} {w : World} {K : Option VOp → Value → Prop} (hg : o.guard = none) (hm : isMv o.op = false) :
    stepF P ops o e w K = Fl P (inst e o.type o.op) w fun v => K (some (inst e o.type o.op)) v := by
  unfold stepF; rw [hg]; simp only
  revert hm; generalize o.op = op; cases op <;> intro hm <;> first | rfl | simp [isMv] at hm

theorem stepF_geq {ops : List Oper} {o oj : Oper} {e : Env} {w : World} {K : Option VOp → Value → Prop} {j d : Nat} {want : Bool} (hg : o.guard = some (j, want)) (hj : ops[j]? = some oj) (hd : oj.dst = some d) (hm : isMv o.op = false) :
    stepF P ops o e w K = GF P (e d) want (inst e o.type o.op) w K := by
  unfold stepF; rw [hg]; simp only; rw [hj]; simp only; rw [hd]; simp only
  revert hm; generalize o.op = op; cases op <;> intro hm <;> first | rfl | simp [isMv] at hm

theorem mv_look {ops : List Oper} {o : Oper} {e e' : Env} (h : ∀ t ∈ looks ops o, e t = e' t) {x : Operand} (hx : o.op = .move x ∨ o.op = .assign x) : evE e x = evE e' x := by
  refine evE_look (by intro cs b hc; rcases hx with hx | hx <;> rw [hx] at hc <;> cases hc) h x ?_
  rcases hx with hx | hx <;> rw [hx] <;> simp [Op.operands]

theorem stepF_dep {ops : List Oper} {o : Oper} {e e' : Env} {w : World} {K K' : Option VOp → Value → Prop} (h : ∀ t ∈ looks ops o, e t = e' t) (hK : ∀ q v, K q v → K' q v)
    (hs : stepF P ops o e w K) : stepF P ops o e' w K' := by
  have hev := inst_looks h
  cases hg : o.guard with
  | none =>
    rcases isMv_cases o.op with ⟨x, hx⟩ | hm
    · have he := mv_look h hx
      unfold stepF at *; rw [hg] at hs ⊢; simp only at hs ⊢
      rcases hx with hx | hx <;> rw [hx] at hs ⊢ <;> simp only [he] at hs <;> exact hK _ _ hs
    · rw [stepF_eq hg hm] at hs ⊢
      rw [hev] at hs
      obtain ⟨v, h1, h2⟩ := hs.out
      exact ⟨v, h1, hK _ _ h2⟩
  | some jw =>
    obtain ⟨j, want⟩ := jw
    cases hj : ops[j]? with
    | none => unfold stepF at hs; rw [hg] at hs; simp only at hs; rw [hj] at hs; exact hs.elim
    | some oj =>
      cases hd : oj.dst with
      | none => unfold stepF at hs; rw [hg] at hs; simp only at hs; rw [hj] at hs; simp only at hs; rw [hd] at hs; exact hs.elim
      | some d =>
        have hdd := h d (look_guard hg hj hd)
        rcases isMv_cases o.op with ⟨x, hx⟩ | hm
        · have he := mv_look h hx
          unfold stepF at *; rw [hg] at hs ⊢; simp only at hs ⊢; rw [hj] at hs ⊢; simp only at hs ⊢; rw [hd] at hs ⊢; simp only at hs ⊢
          rw [← hdd]
          rcases hx with hx | hx <;> rw [hx] at hs ⊢ <;> simp only [he] at hs <;> refine ⟨?_⟩ <;> replace hs := hs.out <;> unfold GM0 at hs ⊢ <;> (split at hs <;> first | exact hK _ _ hs | exact hs)
        · rw [stepF_geq hg hj hd hm] at hs ⊢
          rw [hev, hdd] at hs
          refine ⟨?_⟩
          replace hs := hs.out
          unfold GF0 at *
          split at hs
          · rename_i b hb
            cases hbw : b == want with
            | false => rw [hbw] at hs; exact hK _ _ hs
            | true => rw [hbw] at hs; obtain ⟨v, h1, h2⟩ := Fl.out hs; exact ⟨v, h1, hK _ _ h2⟩
          · exact hs.elim

theorem dstsOf_bit {t Z : Nat} : ∀ {l : List Oper} {i : Nat}, (dstsOf l i Z).testBit t = true ↔ ∃ j o, l[j]? = some o ∧ Z.testBit (i + j) = true ∧ o.dst = some t
  | [], i => by simp [dstsOf]
  | o :: l, i => by
    have hl : ∀ (p : Prop), ((dstsOf l (i + 1) Z).testBit t = true ∨ p) ↔ ((∃ j o', l[j]? = some o' ∧ Z.testBit (i + 1 + j) = true ∧ o'.dst = some t) ∨ p) := fun p => by rw [dstsOf_bit]
    simp only [dstsOf]
    constructor
    · intro h
      have h' : (Z.testBit i = true ∧ o.dst = some t) ∨ (dstsOf l (i + 1) Z).testBit t = true := by
        cases hz : Z.testBit i with
        | true =>
          rw [hz] at h
          simp only [cond_true, Nat.testBit_or, Bool.or_eq_true, testBit_bit] at h
          rcases h with h | h
          · exact .inl ⟨rfl, h⟩
          · exact .inr h
        | false => rw [hz] at h; exact .inr h
      rcases h' with ⟨h1, h2⟩ | h'
      · exact ⟨0, o, rfl, by simpa using h1, h2⟩
      · obtain ⟨j, o', h1, h2, h3⟩ := dstsOf_bit.1 h'
        exact ⟨j + 1, o', by simpa using h1, by rw [show i + (j + 1) = i + 1 + j from by omega]; exact h2, h3⟩
    · rintro ⟨j, o', h1, h2, h3⟩
      cases j with
      | zero =>
        simp only [List.getElem?_cons_zero, Option.some.injEq] at h1
        subst h1
        rw [Nat.add_zero] at h2
        rw [h2]; simp only [cond_true]
        exact or_l ((testBit_bit _ _).2 h3)
      | succ j =>
        have : (dstsOf l (i + 1) Z).testBit t = true := dstsOf_bit.2 ⟨j, o', by simpa using h1, by rw [show i + 1 + j = i + (j + 1) from by omega]; exact h2, h3⟩
        cases hz : Z.testBit i with
        | true => simp only [cond_true]; exact or_r this
        | false => exact this

theorem genDraw_bit {ops : List Oper} {t i : Nat} {o : Oper} : ∀ {l : List Oper} {A : List Nat}, l.length ≤ A.length → l[i]? = some o → t ∈ looks ops o →
    (genDraw ops l A).testBit t = true ∨ (dstsOf ops 0 (A.getD i 0)).testBit t = true
  | [], A, _, h, _ => by simp at h
  | x :: l, [], hl, _, _ => by simp at hl
  | x :: l, a :: A, hl, h, ht => by
    simp only [genDraw]
    cases i with
    | zero =>
      simp only [List.getElem?_cons_zero, Option.some.injEq] at h
      subst h
      cases hd : (dstsOf ops 0 a).testBit t with
      | true => exact .inr (by simpa using hd)
      | false => exact .inl (or_l (minus_bit.2 ⟨bitsT_mem ht, hd⟩))
    | succ i =>
      rcases genDraw_bit (l := l) (A := A) (i := i) (by simpa using hl) (by simpa using h) ht with h | h
      · exact .inl (or_r h)
      · exact .inr (by simpa using h)

theorem ancL_length : ∀ (l : List Oper) (acc : List Nat), (ancL l acc).length = acc.length + l.length
  | [], acc => by simp [ancL]
  | o :: l, acc => by simp only [ancL]; rw [ancL_length]; simp; omega

/-- What both environments agree on, when the operations of Z have been done. -/
def Sz (ops : List Oper) (L0 Z : Nat) : Nat := L0 ||| dstsOf ops 0 Z

theorem Sz_put {ops : List Oper} {L0 Z i : Nat} {o : Oper} {e e' : Env} {v : Value} (ho : ops[i]? = some o) (he : Eqv (Sz ops L0 Z) e e') : Eqv (Sz ops L0 (Z ||| 1 <<< i)) (putE e o.dst v) (putE e' o.dst v) := by
  intro t ht
  by_cases hd : o.dst = some t
  · rw [hd]; simp only [putE, upd_same]
  · rw [putE_other hd, putE_other hd]
    refine he t ?_
    simp only [Sz, Nat.testBit_or, Bool.or_eq_true] at ht ⊢
    rcases ht with h | h
    · exact .inl h
    · obtain ⟨j, o', h1, h2, h3⟩ := dstsOf_bit.1 h
      rcases testBit_orBit.1 h2 with h2 | h2
      · exact .inr (dstsOf_bit.2 ⟨j, o', h1, h2, h3⟩)
      · rw [Nat.zero_add] at h2
        subst h2
        rw [ho] at h1; cases h1
        exact absurd h3 hd

theorem Sz_looks {ops : List Oper} {A : List Nat} {L0 Z i : Nat} {o : Oper} {e e' : Env} (hr : ∀ i o t, ops[i]? = some o → t ∈ looks ops o → L0.testBit t = true ∨ (dstsOf ops 0 (A.getD i 0)).testBit t = true)
    (ho : ops[i]? = some o) (hs : sub (A.getD i 0) Z = true) (he : Eqv (Sz ops L0 Z) e e') : ∀ t ∈ looks ops o, e t = e' t := by
  intro t ht
  refine he t ?_
  simp only [Sz, Nat.testBit_or, Bool.or_eq_true]
  rcases hr i o t ho ht with h | h
  · exact .inl h
  · obtain ⟨j, o', h1, h2, h3⟩ := dstsOf_bit.1 h
    exact .inr (dstsOf_bit.2 ⟨j, o', h1, sub_iff.1 hs _ h2, h3⟩)

theorem evalF_dep {ops : List Oper} {A : List Nat} {L0 : Nat} (hr : ∀ i o t, ops[i]? = some o → t ∈ looks ops o → L0.testBit t = true ∨ (dstsOf ops 0 (A.getD i 0)).testBit t = true) {w : World} :
    ∀ (l : List Nat) (Z : Nat) (e e' : Env) (K K' : Nat → Env → List Pd → Prop), Eqv (Sz ops L0 Z) e e' → (∀ Z e e' ps, Eqv (Sz ops L0 Z) e e' → K Z e ps → K' Z e' ps) → evalF P ops A l Z e w K → evalF P ops A l Z e' w K' := by
  intro l
  induction l with
  | nil => intro Z e e' K K' he hK h; exact hK _ _ _ _ he h
  | cons i l ih =>
    intro Z e e' K K' he hK h
    simp only [evalF] at h ⊢
    cases ho : ops[i]? with
    | none => rw [ho] at h; exact h.elim
    | some o =>
      rw [ho] at h
      simp only at h ⊢
      cases hc : (!Z.testBit i && sub (A.getD i 0) Z) with
      | false => rw [hc] at h; exact h.elim
      | true =>
        rw [hc] at h
        simp only [cond_true] at h ⊢
        have hs : sub (A.getD i 0) Z = true := by simp only [Bool.and_eq_true] at hc; exact hc.2
        refine stepF_dep (Sz_looks hr ho hs he) (fun q v hq => ?_) h
        exact ih _ _ _ _ _ (Sz_put ho he) (fun Z e e' ps he h => hK _ _ _ _ he h) hq

theorem allN_mono {p q : Nat → Prop} (h : ∀ i, p i → q i) : ∀ {l : List Nat}, AllN l p → AllN l q
  | [], _ => trivial
  | [_], hh => h _ hh
  | _ :: _ :: _, hh => ⟨h _ hh.1, allN_mono h hh.2⟩

theorem T_dep {ops : Array Oper} {A : List Nat} {E L0 L : Nat} (hr : ∀ i o t, ops.toList[i]? = some o → t ∈ looks ops.toList o → L0.testBit t = true ∨ (dstsOf ops.toList 0 (A.getD i 0)).testBit t = true)
    (hL : ∀ t, L.testBit t = true → L0.testBit t = true ∨ (wrOps ops.toList).testBit t = true)
    {k k' : Env → World → Prop} (hk : ∀ e e' w, Eqv L e e' → k e w → k' e' w) :
    ∀ (f Z Y : Nat) (op : List Pd) (e e' : Env) (w : World), Eqv (Sz ops.toList L0 Z) e e' → T P ops A E k f Z Y op e w → T P ops A E k' f Z Y op e' w := by
  intro f
  induction f with
  | zero => intro Z Y op e e' w _ h; exact h.elim
  | succ f ih =>
    intro Z Y op e e' w he h
    refine evalF_dep hr _ _ _ _ _ _ he (fun Z e e' ps he h => ?_) h
    unfold TPost at *
    cases hc : Nat.beq Y E with
    | true =>
      rw [hc] at h
      simp only [cond_true] at h ⊢
      cases hz : Nat.beq Z (2 ^ ops.toList.length - 1) with
      | false => rw [hz] at h; exact h.elim
      | true =>
        rw [hz] at h
        refine hk _ _ _ (fun t ht => he t ?_) h
        simp only [Sz, Nat.testBit_or, Bool.or_eq_true]
        rcases hL t ht with h | h
        · exact .inl h
        · refine .inr (dstsOf_bit.2 ?_)
          have key : ∀ l : List Oper, (wrOps l).testBit t = true → ∃ (j : Nat) (o : Oper), l[j]? = some o ∧ o.dst = some t := by
            intro l
            induction l with
            | nil => intro h; simp [wrOps] at h
            | cons o l ih =>
              intro h
              simp only [wrOps, Nat.testBit_or, Bool.or_eq_true, testBit_bit] at h
              rcases h with h | h
              · exact ⟨0, o, rfl, h⟩
              · obtain ⟨j, o', h1, h2⟩ := ih h
                exact ⟨j + 1, o', by simpa using h1, h2⟩
          obtain ⟨j, o, h1, h2⟩ := key _ h
          refine ⟨j, o, h1, ?_, h2⟩
          rw [nbeq.1 hz, Nat.testBit_two_pow_sub_one, Nat.zero_add]
          simpa using (List.getElem?_eq_some_iff.1 h1).1
    | false =>
      rw [hc] at h
      simp only [cond_false] at h ⊢
      refine allN_mono (fun i hi => ?_) h
      cases ho : ops.toList[i]? with
      | none => rw [ho] at hi; exact hi.elim
      | some o =>
        rw [ho] at hi
        simp only at hi ⊢
        cases hcc : (sub (A.getD i 0) Z && !Z.testBit i) with
        | false => rw [hcc] at hi; exact hi.elim
        | true =>
          rw [hcc] at hi
          simp only [cond_true] at hi ⊢
          have hs : sub (A.getD i 0) Z = true := by simp only [Bool.and_eq_true] at hcc; exact hcc.1
          refine stepE_mono (fun v w' hv => ?_) (stepE_congr (Sz_looks hr ho hs he) hi)
          obtain ⟨h1, h2⟩ := andS_spec hv
          have h3 := ih _ _ _ _ _ w' (Sz_put ho he) h2
          generalize opens (A.getD i 0) (op ++ ps) = l at *
          cases l with
          | nil => exact h3
          | cons a l => exact ⟨h1, h3⟩

def DepQ (L : Nat) (Q : QE) : Prop := ∀ ex e e' w, Eqv L e e' → Q ex e w → Q ex e' w

theorem mapL_congr {e e' : Env} : ∀ {M : List Nat}, (∀ t ∈ M, e t = e' t) → mapL e M = mapL e' M
  | [], _ => rfl
  | m :: M, h => by simp only [mapL]; rw [h m (List.mem_cons_self ..), mapL_congr fun t ht => h t (List.mem_cons_of_mem _ ht)]

theorem bitsL_mem {m t : Nat} : ∀ {n : Nat}, t ∈ bitsL m n ↔ t < n ∧ m.testBit t = true
  | 0 => by simp [bitsL]
  | n + 1 => by
    simp only [bitsL]
    cases h : m.testBit n with
    | true =>
      simp only [cond_true, List.mem_cons, bitsL_mem (n := n)]
      constructor
      · rintro (rfl | ⟨h1, h2⟩)
        · exact ⟨Nat.lt_succ_self _, h⟩
        · exact ⟨Nat.lt_succ_of_lt h1, h2⟩
      · rintro ⟨h1, h2⟩
        by_cases hn : t = n
        · exact .inl hn
        · exact .inr ⟨by omega, h2⟩
    | false =>
      simp only [cond_false, bitsL_mem (n := n)]
      constructor
      · rintro ⟨h1, h2⟩; exact ⟨Nat.lt_succ_of_lt h1, h2⟩
      · rintro ⟨h1, h2⟩
        refine ⟨?_, h2⟩
        by_cases hn : t = n
        · subst hn; rw [h] at h2; cases h2
        · omega

theorem over_other {e : Env} {vs : List Value} {t : Nat} : ∀ {M : List Nat} {i : Nat}, t ∉ M → over e vs M i t = e t
  | [], _, _ => rfl
  | m :: M, i, h => by
    have : Nat.beq t m = false := by
      cases hb : Nat.beq t m with
      | false => rfl
      | true => exact absurd (by rw [nbeq.1 hb]; exact List.mem_cons_self ..) h
    simp only [over, this, cond_false]
    exact over_other fun hm => h (List.mem_cons_of_mem _ hm)

theorem over_mem {e e' : Env} {vs : List Value} {t : Nat} : ∀ {M : List Nat} {i : Nat}, t ∈ M → over e vs M i t = over e' vs M i t
  | m :: M, i, h => by
    simp only [over]
    cases hb : Nat.beq t m with
    | true => rfl
    | false =>
      simp only [cond_false]
      refine over_mem ?_
      rcases List.mem_cons.1 h with rfl | h
      · rw [Nat.beq_refl] at hb; cases hb
      · exact h

theorem g_map {e : Env} : ∀ {pre M : List Nat} {m : Nat}, g (mapL e (pre ++ m :: M)) pre.length = e m
  | [], _, _ => rfl
  | _ :: pre, M, m => by simp only [List.cons_append, mapL, List.length_cons, g]; exact g_map

theorem over_map {e e' : Env} {t : Nat} : ∀ {M pre : List Nat}, t ∈ M → over e (mapL e' (pre ++ M)) M pre.length t = e' t
  | m :: M, pre, h => by
    simp only [over]
    cases hb : Nat.beq t m with
    | true => simp only [cond_true]; rw [g_map, nbeq.1 hb]
    | false =>
      simp only [cond_false]
      have := over_map (e := e) (e' := e') (t := t) (M := M) (pre := pre ++ [m]) (by
        rcases List.mem_cons.1 h with rfl | h
        · rw [Nat.beq_refl] at hb; cases hb
        · exact h)
      simpa using this

theorem over_eqv {L : Nat} {e e' : Env} {vs : List Value} {M : List Nat} (h : Eqv L e e') : Eqv L (over e vs M 0) (over e' vs M 0) := by
  intro t ht
  by_cases hm : t ∈ M
  · exact over_mem hm
  · rw [over_other hm, over_other hm]; exact h t ht

theorem evE_eqv {L : Nat} {e e' : Env} {c : Operand} (h : Eqv (tmpB c ||| L) e e') : evE e c = evE e' c := by
  cases c with
  | tmp t => exact h t (by rw [Nat.testBit_or, Bool.or_eq_true]; exact .inl (testBit_one_shl.2 rfl))
  | _ => rfl

theorem minus_mono {a b c : Nat} (h : ∀ t, a.testBit t = true → b.testBit t = true) : ∀ t, (minus a c).testBit t = true → (minus b c).testBit t = true := fun t ht => by
  obtain ⟨h1, h2⟩ := minus_bit.1 ht
  exact minus_bit.2 ⟨h t h1, h2⟩
theorem liveOps_or {ops : List Oper} {A B : Nat} : ∀ (l : List Oper) (t : Nat), (liveOps ops l (A ||| B)).testBit t = true → (liveOps ops l A).testBit t = true ∨ B.testBit t = true
  | [], t, h => by simpa [liveOps, Nat.testBit_or] using h
  | o :: l, t, h => by
    simp only [liveOps, Nat.testBit_or, Bool.or_eq_true, del_bit] at h ⊢
    rcases h with h | ⟨h1, h2⟩
    · exact .inl (.inl h)
    · rcases liveOps_or l t h1 with h | h
      · exact .inl (.inr ⟨h, h2⟩)
      · exact .inr h
theorem liveOps_mono {ops : List Oper} {A B : Nat} (hAB : ∀ t, A.testBit t = true → B.testBit t = true) : ∀ (l : List Oper) (t : Nat), (liveOps ops l A).testBit t = true → (liveOps ops l B).testBit t = true
  | [], t, h => hAB t h
  | o :: l, t, h => by
    simp only [liveOps, Nat.testBit_or, Bool.or_eq_true, del_bit] at h ⊢
    rcases h with h | ⟨h1, h2⟩
    · exact .inl h
    · exact .inr ⟨liveOps_mono hAB l t h1, h2⟩
theorem or_mono {a b c d : Nat} (h1 : ∀ t, a.testBit t = true → b.testBit t = true) (h2 : ∀ t, c.testBit t = true → d.testBit t = true) : ∀ t, (a ||| c).testBit t = true → (b ||| d).testBit t = true := fun t ht => by
  simp only [Nat.testBit_or, Bool.or_eq_true] at ht ⊢
  exact ht.imp (h1 t) (h2 t)
theorem live_mono : ∀ (c : Code) {A B : Nat}, (∀ t, A.testBit t = true → B.testBit t = true) → ∀ t, (liveC c A).testBit t = true → (liveC c B).testBit t = true := by
  intro c
  induction c with
  | region id ops draw =>
    intro A B hAB t h
    cases draw with
    | false => exact liveOps_mono hAB _ t h
    | true => exact or_mono (fun _ h => h) (minus_mono hAB) t h
  | seq x y ihx ihy => intro A B hAB; exact ihx (or_mono (ihy hAB) hAB)
  | cond c x y ihx ihy => intro A B hAB; exact or_mono (fun _ h => h) (or_mono (ihx hAB) (ihy hAB))
  | block id c ih => intro A B hAB; exact ih hAB
  | loop c ih => intro A B hAB; exact or_mono (ih hAB) hAB
  | _ => intro A B hAB; exact hAB
theorem live_or : ∀ (c : Code) {A B : Nat} (t : Nat), (liveC c (A ||| B)).testBit t = true → (liveC c A).testBit t = true ∨ B.testBit t = true := by
  intro c
  induction c with
  | region id ops draw =>
    intro A B t h
    cases draw with
    | false => exact liveOps_or _ t h
    | true =>
      simp only [liveC, cond_true, Nat.testBit_or, Bool.or_eq_true, minus_bit] at h ⊢
      rcases h with h | ⟨h | h, h2⟩
      · exact .inl (.inl h)
      · exact .inl (.inr ⟨h, h2⟩)
      · exact .inr h
  | seq x y ihx ihy =>
    intro A B t h
    have h' : (liveC x ((liveC y A ||| A) ||| B)).testBit t = true := by
      refine live_mono x (fun t ht => ?_) t h
      simp only [Nat.testBit_or, Bool.or_eq_true] at ht ⊢
      rcases ht with h | h | h
      · rcases ihy t h with h | h
        · exact .inl (.inl h)
        · exact .inr h
      · exact .inl (.inr h)
      · exact .inr h
    exact ihx t h'
  | cond c x y ihx ihy =>
    intro A B t h
    simp only [liveC, Nat.testBit_or, Bool.or_eq_true] at h ⊢
    rcases h with h | h | h
    · exact .inl (.inl h)
    · rcases ihx t h with h | h
      · exact .inl (.inr (.inl h))
      · exact .inr h
    · rcases ihy t h with h | h
      · exact .inl (.inr (.inr h))
      · exact .inr h
  | block id c ih => intro A B t h; exact ih t h
  | loop c ih =>
    intro A B t h
    simp only [liveC, Nat.testBit_or, Bool.or_eq_true] at h ⊢
    rcases h with h | h | h
    · rcases ih t h with h | h
      · exact .inl (.inl h)
      · exact .inr h
    · exact .inl (.inr h)
    · exact .inr h
  | _ => intro A B t h; simpa [liveC, Nat.testBit_or] using h
/-- A loop's own need is enough for another round. -/
theorem live_loop {c : Code} {L : Nat} : ∀ t, (liveC c (liveC c L ||| L)).testBit t = true → (liveC c L ||| L).testBit t = true := by
  intro t h
  have h' : (liveC c (L ||| liveC c L)).testBit t = true := live_mono c (fun t ht => by simpa [Nat.testBit_or, Bool.or_comm] using ht) t h
  rcases live_or c t h' with h | h <;> exact or_l h

theorem live_keep : ∀ (c : Code) {X : Nat} {t : Nat}, X.testBit t = true → (wrC c).testBit t = false → (liveC c X).testBit t = true := by
  have hops : ∀ (ops l : List Oper) {X : Nat} {t : Nat}, X.testBit t = true → (wrOps l).testBit t = false → (liveOps ops l X).testBit t = true := by
    intro ops l
    induction l with
    | nil => intro X t h _; exact h
    | cons o l ih =>
      intro X t h hw
      simp only [wrOps, Nat.testBit_or, Bool.or_eq_false_iff] at hw
      exact or_r (del_bit.2 ⟨ih h hw.2, fun hd => by rw [(testBit_bit _ _).2 hd] at hw; exact absurd hw.1 (by simp)⟩)
  intro c
  induction c with
  | region id ops draw =>
    intro X t h hw
    cases draw with
    | false => exact hops _ _ h hw
    | true => exact or_r (minus_bit.2 ⟨h, hw⟩)
  | seq x y ihx ihy =>
    intro X t h hw
    simp only [wrC, Nat.testBit_or, Bool.or_eq_false_iff] at hw
    exact ihx (or_r h) hw.1
  | cond c x y ihx ihy =>
    intro X t h hw
    simp only [wrC, Nat.testBit_or, Bool.or_eq_false_iff] at hw
    exact or_r (or_l (ihx h hw.1))
  | block id c ih => intro X t h hw; exact ih h hw
  | loop c ih => intro X t h hw; exact or_r h
  | _ => intro X t h _; exact h

theorem wr_lt {N : Nat} : ∀ {c : Code} {t : Nat}, okC N c = true → (wrC c).testBit t = true → t < N := by
  intro c
  induction c with
  | region id ops draw =>
    intro t hok hw
    simp only [okC, Bool.and_eq_true] at hok
    have hok := hok.1
    simp only [wrC] at hw
    generalize ops.toList = l at hok hw
    induction l with
    | nil => simp [wrOps] at hw
    | cons o l ih =>
      simp only [List.all_cons, Bool.and_eq_true] at hok
      simp only [wrOps, Nat.testBit_or, Bool.or_eq_true, testBit_bit] at hw
      rcases hw with hw | hw
      · exact dstOk_lt hok.1 _ hw
      · exact ih hok.2 hw
  | seq x y ihx ihy =>
    intro t hok hw
    simp only [okC, Bool.and_eq_true] at hok
    simp only [wrC, Nat.testBit_or, Bool.or_eq_true] at hw
    exact hw.elim (ihx hok.1) (ihy hok.2)
  | cond c x y ihx ihy =>
    intro t hok hw
    simp only [okC, Bool.and_eq_true] at hok
    simp only [wrC, Nat.testBit_or, Bool.or_eq_true] at hw
    exact hw.elim (ihx hok.1) (ihy hok.2)
  | block id c ih => intro t hok hw; exact ih hok hw
  | loop c ih => intro t hok hw; exact ih hok hw
  | _ => intro t hok hw; simp [wrC] at hw

theorem sem_dep {N : Nat} : ∀ (c : Code) (L : Nat) (Q : QE), DepQ L Q → okC N c = true → ∀ (e e' : Env) (w : World), Eqv (liveC c L) e e' → sem P N c L Q e w → sem P N c L Q e' w := by
  intro c
  induction c with
  | skip => intro L Q hQ _ e e' w he h; exact hQ _ _ _ _ he h
  | label l => intro L Q hQ _ e e' w he h; exact hQ _ _ _ _ he h
  | exit id => intro L Q hQ _ e e' w he h; exact hQ _ _ _ _ he h
  | ret => intro L Q hQ _ e e' w he h; exact hQ _ _ _ _ he h
  | region id ops draw =>
    intro L Q hQ _ e e' w he h
    simp only [sem, liveC] at *
    cases draw with
    | false =>
      simp only [cond_false] at h he ⊢
      exact opsE_dep (k := Q .normal) (k' := Q .normal) (fun e e' w he h => hQ _ _ _ _ he h) _ _ _ _ he h
    | true =>
      simp only [cond_true] at h he ⊢
      refine ⟨?_⟩
      replace h := h.out
      simp only [drawE] at h ⊢
      refine T_dep (k := Q .normal) (k' := Q .normal) (L := L) (L0 := genDraw ops.toList ops.toList (ancL ops.toList []) ||| minus L (wrOps ops.toList)) ?_ ?_ (fun e e' w he h => hQ _ _ _ _ he h) _ _ _ _ _ _ _ (fun t ht => he t ?_) h
      · intro i o t ho ht
        rcases genDraw_bit (A := ancL ops.toList []) (by rw [ancL_length]; simp) ho ht with h | h
        · exact .inl (or_l h)
        · exact .inr h
      · intro t ht
        cases hw : (wrOps ops.toList).testBit t with
        | true => exact .inr rfl
        | false => exact .inl (or_r (minus_bit.2 ⟨ht, hw⟩))
      · simp only [Sz, Nat.testBit_or, Bool.or_eq_true] at ht ⊢
        rcases ht with h | h
        · exact h
        · obtain ⟨j, o, _, h2, _⟩ := dstsOf_bit.1 h
          simp at h2
  | seq x y ihx ihy =>
    intro L Q hQ hok e e' w he h
    simp only [okC, Bool.and_eq_true] at hok
    simp only [sem, liveC] at *
    cases hc : Nat.ble (falls x) 1 with
    | true =>
      rw [hc] at h
      refine ihx _ _ ?_ hok.1 _ _ _ he h
      intro ex a b w' hab hh
      cases ex with
      | normal => exact ihy _ _ hQ hok.2 _ _ _ hab.left hh
      | _ => exact hQ _ _ _ _ hab.right hh
    | false =>
      rw [hc] at h
      obtain ⟨I, h1, h2⟩ := h.out
      refine ⟨I, fun vs w' hI => ihy _ _ hQ hok.2 _ _ _ (fun t ht => ?_) (h1 vs w' hI), ?_⟩
      · by_cases hm : t ∈ bitsL (wrC x &&& liveC y L) N
        · exact over_mem hm
        · rw [over_other hm, over_other hm]
          refine he t (live_keep x (or_l ht) ?_)
          cases hw : (wrC x).testBit t with
          | false => rfl
          | true => exact absurd (bitsL_mem.2 ⟨wr_lt hok.1 hw, by rw [Nat.testBit_and, hw, ht]; rfl⟩) hm
      refine ihx _ _ ?_ hok.1 _ _ _ he h2
      intro ex a b w' hab hh
      cases ex with
      | normal =>
        show I _ _
        rw [← mapL_congr (e := a) (e' := b)]
        · exact hh
        · intro t ht
          have := (bitsL_mem.1 ht).2
          rw [Nat.testBit_and, Bool.and_eq_true] at this
          exact hab.left t this.2
      | _ => exact hQ _ _ _ _ hab.right hh
  | cond c x y ihx ihy =>
    intro L Q hQ hok e e' w he h
    simp only [okC, Bool.and_eq_true] at hok
    simp only [sem, liveC] at *
    have hc : evE e c = evE e' c := evE_eqv he
    rw [← hc]
    refine ⟨?_⟩
    replace h := h.out
    unfold Cnd0 at *
    split at h
    · rename_i b hb
      cases b with
      | true => exact ihx _ _ hQ hok.1 _ _ _ he.right.left h
      | false => exact ihy _ _ hQ hok.2 _ _ _ he.right.right h
    · exact h.elim
  | block id c ih =>
    intro L Q hQ hok e e' w he h
    refine ih _ _ ?_ hok _ _ _ he h
    intro ex a b w' hab hh
    cases ex with
    | exit id' =>
      simp only [blockE] at *
      cases hb : Nat.beq id' id with
      | true => rw [hb] at hh; exact hQ _ _ _ _ hab hh
      | false => rw [hb] at hh; exact hQ _ _ _ _ hab hh
    | _ => exact hQ _ _ _ _ hab hh
  | loop c ih =>
    intro L Q hQ hok e e' w he h
    have hM : ∀ a b : Env, Eqv (liveC c L ||| L) a b → mapL a (bitsL (wrC c &&& (liveC c L ||| L)) N) = mapL b (bitsL (wrC c &&& (liveC c L ||| L)) N) := fun a b hab => mapL_congr fun t ht => by
      have := (bitsL_mem.1 ht).2
      rw [Nat.testBit_and, Bool.and_eq_true] at this
      exact hab t this.2
    obtain ⟨I, μ, h0, hr⟩ := h.out
    refine ⟨I, μ, by rw [← hM e e' he]; exact h0, fun vs w' hI => ?_⟩
    refine ih _ _ ?_ hok _ _ _ ?_ (hr vs w' hI)
    · intro ex a b w'' hab hh
      cases ex with
      | normal =>
        simp only [thenE] at *
        rw [← hM a b hab]; exact hh
      | _ => exact hQ _ _ _ _ hab.right hh
    · exact over_eqv (he.mono fun t ht => live_loop t ht)
  | goto l => intro L Q hQ _ e e' w he h; exact h.elim
  | scope c ih => intro L Q hQ _ e e' w he h; exact h.elim
  | rangeFunc f ps a b iha ihb => intro L Q hQ _ e e' w he h; exact h.elim
  | refuse s => intro L Q hQ _ e e' w he h; exact h.elim
end

section
variable {P : Program} {N : Nat} {r : Option Nat}

def LiftQ (N : Nat) (ds : List Deferred) (W : Nat) (e : Env) (Q : QE) : Exit → Act → World → Prop :=
  fun ex a' w' => a'.defers = ds ∧ ∃ e', Agree N a' e' ∧ (∀ t, W.testBit t = false → e' t = e t) ∧ Q ex e' w'

theorem LiftQ.imp {ds : List Deferred} {W W' : Nat} {e : Env} {Q Q' : QE} {ex : Exit} {a : Act} {w : World} (h : LiftQ N ds W e Q ex a w) (hW : ∀ t, W.testBit t = true → W'.testBit t = true)
    (hQ : ∀ e', Agree N a e' → (∀ t, W.testBit t = false → e' t = e t) → Q ex e' w → Q' ex e' w) : LiftQ N ds W' e Q' ex a w := by
  obtain ⟨h1, e', h2, h3, h4⟩ := h
  refine ⟨h1, e', h2, fun t ht => h3 t ?_, hQ e' h2 h3 h4⟩
  cases hw : W.testBit t with
  | false => rfl
  | true => rw [hW t hw] at ht; cases ht

theorem sem_sound (hm : P.follows .mixedOrders = true) : ∀ (c : Code) (L : Nat) (Q : QE), DepQ L Q → okC N c = true → ∀ (a : Act) (e : Env) (w : World), Agree N a e → sem P N c L Q e w →
    c.wpIn (FR r) 0 P (LiftQ N a.defers (wrC c) e Q) a w := by
  intro c
  induction c with
  | skip => intro L Q hQ hok a e w ha h; exact wpIn_skip ⟨rfl, e, ha, fun _ _ => rfl, h⟩
  | label l => intro L Q hQ hok a e w ha h; exact wpIn_label ⟨rfl, e, ha, fun _ _ => rfl, h⟩
  | exit id => intro L Q hQ hok a e w ha h; exact wpIn_exit ⟨rfl, e, ha, fun _ _ => rfl, h⟩
  | ret => intro L Q hQ hok a e w ha h; exact wpIn_ret ⟨rfl, e, ha, fun _ _ => rfl, h⟩
  | region id ops draw =>
    intro L Q hQ hok a e w ha h
    simp only [okC, Bool.and_eq_true] at hok
    simp only [sem] at h
    cases draw with
    | false =>
      simp only [cond_false] at h
      exact region_sound (k := Q .normal) hok.1 ha h fun a' e' w' h1 h2 h3 h4 => ⟨h2, e', h1, h3, h4⟩
    | true =>
      simp only [cond_true] at h hok
      exact drawE_sound (k := Q .normal) hm hok.1 hok.2 ha h.out fun a' e' w' h1 h2 h3 h4 => ⟨h2, e', h1, h3, h4⟩
  | seq x y ihx ihy =>
    intro L Q hQ hok a e w ha h
    simp only [okC, Bool.and_eq_true] at hok
    refine wpIn_seq ?_
    have hy : ∀ (a' : Act) (e' e1 : Env) (w' : World), a'.defers = a.defers → Agree N a' e' → (∀ t, (wrC x).testBit t = false → e' t = e t) → Eqv (liveC y L) e1 e' → sem P N y L Q e1 w' →
        y.wpIn (FR r) 0 P (LiftQ N a.defers (wrC x ||| wrC y) e Q) a' w' := by
      intro a' e' e1 w' hd ha' hfr hev hs
      refine wpIn_mono (ihy L Q hQ hok.2 a' e' w' ha' (sem_dep y L Q hQ hok.2 e1 e' w' hev hs)) fun ex a2 w2 h2 => ?_
      obtain ⟨h3, e2, h4, h5, h6⟩ := h2
      refine ⟨h3.trans hd, e2, h4, fun t ht => ?_, h6⟩
      simp only [Nat.testBit_or, Bool.or_eq_false_iff] at ht
      rw [h5 t ht.2, hfr t ht.1]
    have hout : ∀ (Q1 : QE) (ex : Exit) (a' : Act) (w' : World), ex ≠ .normal → LiftQ N a.defers (wrC x) e (thenE (fun e w => Q1 .normal e w) Q) ex a' w' → LiftQ N a.defers (wrC x ||| wrC y) e Q ex a' w' := by
      intro Q1 ex a' w' hne h2
      refine h2.imp (fun t ht => or_l ht) fun e' _ _ hh => ?_
      cases ex <;> first | exact absurd rfl hne | exact hh
    simp only [sem] at h
    cases hc : Nat.ble (falls x) 1 with
    | true =>
      rw [hc] at h
      have hdep : DepQ (liveC y L ||| L) (thenE (sem P N y L Q) Q) := by
        intro ex u v w' hab hh
        cases ex with
        | normal => exact sem_dep y L Q hQ hok.2 _ _ _ hab.left hh
        | _ => exact hQ _ _ _ _ hab.right hh
      refine wpIn_mono (ihx _ _ hdep hok.1 a e w ha h) fun ex a' w' h2 => ?_
      cases ex with
      | normal =>
        obtain ⟨h3, e', h4, h5, h6⟩ := h2
        exact hy a' e' e' w' h3 h4 h5 (fun _ _ => rfl) h6
      | _ => exact hout (fun _ e w => sem P N y L Q e w) _ _ _ (by simp) h2
    | false =>
      rw [hc] at h
      obtain ⟨I, h1, h2⟩ := h.out
      have hMsub : ∀ t, t ∈ bitsL (wrC x &&& liveC y L) N → (liveC y L).testBit t = true := fun t ht => by
        have := (bitsL_mem.1 ht).2
        rw [Nat.testBit_and, Bool.and_eq_true] at this
        exact this.2
      have hdep : DepQ (liveC y L ||| L) (thenE (fun e' w' => I (mapL e' (bitsL (wrC x &&& liveC y L) N)) w') Q) := by
        intro ex u v w' hab hh
        cases ex with
        | normal =>
          show I _ _
          rw [← mapL_congr (e := u) (e' := v) fun t ht => hab.left t (hMsub t ht)]
          exact hh
        | _ => exact hQ _ _ _ _ hab.right hh
      refine wpIn_mono (ihx _ _ hdep hok.1 a e w ha h2) fun ex a' w' h3 => ?_
      cases ex with
      | normal =>
        obtain ⟨h4, e', h5, h6, h7⟩ := h3
        refine hy a' e' _ w' h4 h5 h6 ?_ (h1 _ w' h7)
        intro t ht
        by_cases hmem : t ∈ bitsL (wrC x &&& liveC y L) N
        · exact over_map (pre := []) hmem
        · rw [over_other hmem]
          have hlt : t < N ∨ N ≤ t := Nat.lt_or_ge t N
          cases hw : (wrC x).testBit t with
          | false => exact (h6 t hw).symm
          | true =>
            rcases hlt with hlt | hge
            · exact absurd (bitsL_mem.2 ⟨hlt, by rw [Nat.testBit_and, hw, ht]; rfl⟩) hmem
            · have e1 : e' t = undef := by rw [← h5.look, Array.getD_eq_getD_getElem?, Array.getElem?_eq_none (by rw [h5.size]; exact hge)]; rfl
              have e2 : e t = undef := by rw [← ha.look, Array.getD_eq_getD_getElem?, Array.getElem?_eq_none (by rw [ha.size]; exact hge)]; rfl
              rw [e1, e2]
      | _ => exact hout (fun _ e' w' => I (mapL e' (bitsL (wrC x &&& liveC y L) N)) w') _ _ _ (by simp) h3
  | cond c x y ihx ihy =>
    intro L Q hQ hok a e w ha h
    simp only [okC, Bool.and_eq_true] at hok
    simp only [sem] at h
    replace h := h.out
    unfold Cnd0 at h
    split at h
    · rename_i b hb
      have hev : a.eval c = .bool b := by rw [ha.eval]; exact hb
      refine wpIn_cond hev ?_
      cases b with
      | true => exact wpIn_mono (ihx _ _ hQ hok.1 a e w ha h) fun ex a' w' h2 => h2.imp (fun t ht => or_l ht) fun _ _ _ hh => hh
      | false => exact wpIn_mono (ihy _ _ hQ hok.2 a e w ha h) fun ex a' w' h2 => h2.imp (fun t ht => or_r ht) fun _ _ _ hh => hh
    · exact h.elim
  | block id c ih =>
    intro L Q hQ hok a e w ha h
    refine wpIn_block ?_
    have hdep : DepQ L (blockE id Q) := by
      intro ex u v w' hab hh
      cases ex with
      | exit id' =>
        simp only [blockE] at *
        cases hb : Nat.beq id' id with
        | true => rw [hb] at hh; exact hQ _ _ _ _ hab hh
        | false => rw [hb] at hh; exact hQ _ _ _ _ hab hh
      | _ => exact hQ _ _ _ _ hab hh
    refine wpIn_mono (ih _ _ hdep hok a e w ha h) fun ex a' w' h2 => ?_
    obtain ⟨h3, e', h4, h5, h6⟩ := h2
    cases ex with
    | exit id' =>
      simp only [Exit.inBlock]
      simp only [blockE] at h6
      by_cases hid : id' = id
      · rw [if_pos hid]; rw [nbeq.2 hid] at h6; exact ⟨h3, e', h4, h5, h6⟩
      · rw [if_neg hid]
        cases hb : Nat.beq id' id with
        | true => exact absurd (nbeq.1 hb) hid
        | false => rw [hb] at h6; exact ⟨h3, e', h4, h5, h6⟩
    | _ => exact ⟨h3, e', h4, h5, h6⟩
  | loop c ih =>
    intro L Q hQ hok a e w ha h
    obtain ⟨I, μ, h0, hround⟩ := h.out
    have hMsub : ∀ t, t ∈ bitsL (wrC c &&& (liveC c L ||| L)) N → (liveC c L ||| L).testBit t = true := fun t ht => by
      have := (bitsL_mem.1 ht).2
      rw [Nat.testBit_and, Bool.and_eq_true] at this
      exact this.2
    have hMe : ∀ u v : Env, Eqv (liveC c L ||| L) u v → mapL u (bitsL (wrC c &&& (liveC c L ||| L)) N) = mapL v (bitsL (wrC c &&& (liveC c L ||| L)) N) := fun u v hab => mapL_congr fun t ht => hab t (hMsub t ht)
    refine wpIn_loop (fun a' w' => a'.defers = a.defers ∧ ∃ e', Agree N a' e' ∧ (∀ t, (wrC c).testBit t = false → e' t = e t) ∧ I (mapL e' (bitsL (wrC c &&& (liveC c L ||| L)) N)) w')
      (fun a' w' => μ (mapL (fun t => a'.tmps.getD t undef) (bitsL (wrC c &&& (liveC c L ||| L)) N)) w') ⟨rfl, e, ha, fun _ _ => rfl, h0⟩ ?_
    rintro a1 w1 ⟨hd1, e1, ha1, hfr1, hI1⟩
    have hdep : ∀ vs : List Value, DepQ (liveC c L ||| L) (thenE (fun e' w'' => I (mapL e' (bitsL (wrC c &&& (liveC c L ||| L)) N)) w'' ∧ μ (mapL e' (bitsL (wrC c &&& (liveC c L ||| L)) N)) w'' < μ vs w1) Q) := by
      intro vs ex u v w' hab hh
      cases ex with
      | normal =>
        simp only [thenE] at *
        rw [← hMe u v hab]; exact hh
      | _ => exact hQ _ _ _ _ hab.right hh
    have hbody := sem_dep c (liveC c L ||| L) _ (hdep _) hok _ e1 w1 (fun t ht => by
      have ht' : (liveC c L ||| L).testBit t = true := live_loop t ht
      by_cases hmem : t ∈ bitsL (wrC c &&& (liveC c L ||| L)) N
      · exact over_map (pre := []) hmem
      · rw [over_other hmem]
        cases hw : (wrC c).testBit t with
        | false => exact (hfr1 t hw).symm
        | true =>
          rcases Nat.lt_or_ge t N with hlt | hge
          · exact absurd (bitsL_mem.2 ⟨hlt, by rw [Nat.testBit_and, hw, ht']; rfl⟩) hmem
          · have q1 : e1 t = undef := by rw [← ha1.look, Array.getD_eq_getD_getElem?, Array.getElem?_eq_none (by rw [ha1.size]; exact hge)]; rfl
            have q2 : e t = undef := by rw [← ha.look, Array.getD_eq_getD_getElem?, Array.getElem?_eq_none (by rw [ha.size]; exact hge)]; rfl
            rw [q1, q2]) (hround _ w1 hI1)
    refine wpIn_mono (ih _ _ (hdep _) hok a1 e1 w1 ha1 hbody) fun ex a2 w2 h2 => ?_
    obtain ⟨h3, e2, h4, h5, h6⟩ := h2
    have hfr2 : ∀ t, (wrC c).testBit t = false → e2 t = e t := fun t ht => by rw [h5 t ht, hfr1 t ht]
    cases ex with
    | normal =>
      simp only [thenE] at h6
      refine ⟨⟨h3.trans hd1, e2, h4, hfr2, h6.1⟩, ?_⟩
      have e1' : (fun t => a1.tmps.getD t undef) = e1 := funext ha1.look
      have e2' : (fun t => a2.tmps.getD t undef) = e2 := funext h4.look
      rw [e1', e2']
      exact h6.2
    | _ => exact ⟨h3.trans hd1, e2, h4, hfr2, h6⟩
  | goto l => intro L Q hQ hok a e w ha h; exact h.elim
  | scope c ih => intro L Q hQ hok a e w ha h; exact h.elim
  | rangeFunc f ps x y iha ihb => intro L Q hQ hok a e w ha h; exact h.elim
  | refuse s => intro L Q hQ hok a e w ha h; exact h.elim
end

/-! ### A whole function -/

def finV : List Value → Value
  | [v] => v
  | l => .tuple l.toArray
def resE (P : Program) (R : KV) : List ResultVar → List Value → Env → World → Prop
  | [], acc, _, w => R (finV acc) w
  | .tmp t :: rs, acc, e, w => resE P R rs (acc ++ [e t]) e w
  | .cell a t :: rs, acc, e, w => Fl P (.load t (e a)) w fun v => resE P R rs (acc ++ [v]) e w
def resB : List ResultVar → Nat
  | [] => 0
  | .tmp t :: rs => 1 <<< t ||| resB rs
  | .cell a _ :: rs => 1 <<< a ||| resB rs
def topQ (P : Program) (rs : List ResultVar) (R : KV) : QE
  | .normal, e, w => resE P R rs [] e w
  | .ret, e, w => resE P R rs [] e w
  | _, _, _ => False
def semF (P : Program) (f : Func) (c : Code) (args : List Value) (R : KV) (w : World) : Prop :=
  sem P f.ntmps c (resB f.results.toList) (topQ P f.results.toList R) (g args) w

theorem g_getD : ∀ (l : List Value) (t : Nat), g l t = l.getD t undef
  | [], t => by simp [g]
  | v :: l, 0 => by simp [g]
  | v :: l, t + 1 => by simp [g, g_getD l t]

def resOne (a : Array Value) : ResultVar → Sem Value
  | .tmp t => pure (a.getD t undef)
  | .cell p t => do loadVar t (← asAddr (a.getD p undef))

theorem results_eq (fn : Func) (a : Array Value) : results fn a = (do let vs ← fn.results.toList.mapM (resOne a); pure (finV vs)) := by
  have key : ∀ F : ResultVar → Sem Value, F = resOne a → (do let vs ← fn.results.mapM F; pure (if h : vs.size = 1 then vs[0] else .tuple vs) : Sem Value) = (do let vs ← fn.results.toList.mapM (resOne a); pure (finV vs)) := by
    intro F hF
    rw [hF, Array.mapM_eq_mapM_toList]
    simp only [map_eq_pure_bind, bind_assoc, pure_bind]
    congr 1
    funext l
    match l with
    | [] => rfl
    | [v] => rfl
    | _ :: _ :: _ => simp [finV]
  unfold results
  exact key _ (by funext x; cases x <;> rfl)

theorem run_load_same {P : Program} {t : TypeId} {p : Value} {v : Value} {w : World} (h : (VOp.sem (.load t p)).run P w = .ok (.value v) w) :
    (do loadVar t (← asAddr p) : Sem Value).run P w = .ok v w := by
  simp only [VOp.sem, Instr.loadAt, Instr.sureAddr, asAddr] at *
  cases p with
  | pointer a =>
    cases a with
    | none => simp [stuck, bind, Sem.bind, Sem.run] at h
    | some a =>
      simp only [pure_bind] at h ⊢
      rw [Sem.run_bind] at h
      cases hr : (loadVar t a).run P w with
      | ok x w' => rw [hr] at h; simp [Result.andThen, pure, Sem.run] at h; obtain ⟨rfl, rfl⟩ := h; rfl
      | halt x w' => rw [hr] at h; simp [Result.andThen] at h
  | _ => simp [stuck, bind, Sem.bind, Sem.run] at h

theorem resE_run {P : Program} {R : KV} {e : Env} {a : Array Value} (ha : ∀ t, a.getD t undef = e t) {w : World} : ∀ (rs : List ResultVar) (acc : List Value), resE P R rs acc e w →
    ∃ vs, (rs.mapM (resOne a)).run P w = .ok vs w ∧ R (finV (acc ++ vs)) w
  | [], acc, h => ⟨[], by simp [pure, Sem.run], by rw [List.append_nil]; exact h⟩
  | .tmp t :: rs, acc, h => by
    obtain ⟨vs, h1, h2⟩ := resE_run ha rs _ h
    refine ⟨e t :: vs, ?_, by simpa using h2⟩
    simp only [List.mapM_cons, resOne, pure_bind, Sem.run_bind, h1, ha t]
    simp [Result.andThen, pure, Sem.run]
  | .cell p t :: rs, acc, h => by
    obtain ⟨v, hv, h⟩ := Fl.out h
    obtain ⟨vs, h1, h2⟩ := resE_run ha rs _ h
    refine ⟨v :: vs, ?_, by simpa using h2⟩
    have := run_load_same hv
    rw [← ha p] at this
    simp only [List.mapM_cons, resOne]
    rw [Sem.run_bind, this]
    simp only [Result.andThen]
    rw [Sem.run_bind, h1]
    simp [Result.andThen, pure, Sem.run]

theorem resE_dep {P : Program} {R : KV} {w : World} : ∀ (rs : List ResultVar) (acc : List Value) (e e' : Env), Eqv (resB rs) e e' → resE P R rs acc e w → resE P R rs acc e' w
  | [], _, _, _, _, h => h
  | .tmp t :: rs, acc, e, e', he, h => by
    have ht : e t = e' t := he t (by simp only [resB]; exact or_l (testBit_one_shl.2 rfl))
    simp only [resE] at *
    rw [← ht]
    exact resE_dep rs _ e e' he.right h
  | .cell p t :: rs, acc, e, e', he, h => by
    have ht : e p = e' p := he p (by simp only [resB]; exact or_l (testBit_one_shl.2 rfl))
    obtain ⟨v, hv, h⟩ := Fl.out h
    exact ⟨v, ht ▸ hv, resE_dep rs _ e e' he.right h⟩

/-- THE LINK: what the reading of a function's code comes to, the call comes to. -/
theorem calls_of_semF {P : Program} {i : FuncId} {f : Func} {c : Code} {args : List Value} {R : KV} {w : World} (hm : P.follows .mixedOrders = true) (hf : P.funcs[i]? = some f) (hb : f.body = some c)
    (hok : okC f.ntmps c = true) (hlen : Nat.ble args.length f.ntmps = true) (h : semF P f c args R w) : Calls P i args.toArray w (Ret R) := by
  refine calls_of_wp hf hb (wpIn_wide (n := 0).1 ?_)
  have hlen' : args.length ≤ f.ntmps := Nat.le_of_ble_eq_true hlen
  have ha : Agree f.ntmps { tmps := args.toArray ++ Array.replicate (f.ntmps - args.toArray.size) undef, defers := [] } (g args) := by
    refine ⟨by simp; omega, fun t => ?_⟩
    rw [g_getD]
    simp only [Array.getD_eq_getD_getElem?, Array.getElem?_append, List.getD_eq_getElem?_getD]
    by_cases ht : t < args.length
    · simp [ht]
    · simp only [List.size_toArray, if_neg ht, Array.getElem?_replicate]
      rw [List.getElem?_eq_none (by omega)]
      split <;> rfl
  have hQ : DepQ (resB f.results.toList) (topQ P f.results.toList R) := by
    intro ex e e' w he h
    cases ex <;> first | exact resE_dep _ _ _ _ he h | exact h
  refine wpIn_mono (sem_sound (r := none) hm c _ _ hQ hok _ _ w ha h) fun ex a' w' h2 => ?_
  obtain ⟨h3, e', h4, h5, h6⟩ := h2
  cases ex with
  | normal =>
    obtain ⟨vs, h7, h8⟩ := resE_run h4.look _ _ h6
    exact ⟨h3, finV vs, by rw [results_eq, Sem.run_bind, h7]; simp [Result.andThen, pure, Sem.run], h8⟩
  | ret =>
    obtain ⟨vs, h7, h8⟩ := resE_run h4.look _ _ h6
    exact ⟨h3, finV vs, by rw [results_eq, Sem.run_bind, h7]; simp [Result.andThen, pure, Sem.run], h8⟩
  | _ => exact h6.elim
def bodyOf (f : Func) : Code := match f.body with | some c => c | none => .skip
end Go.Rv
