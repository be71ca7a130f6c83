/- Part of the proof that YteemoolcphhkbaaGreat holds whatever the input: a text of contracts, laws and steps; no condition. -/
/- The framework: a reading of the program's code over environments (slot number to value), by continuations, and its soundness over the model's own rules. -/
import Derived.RangeFuncLeaves
import Derived.OrdersIn
import Derived.KernelRfl
set_option linter.all false
set_option autoImplicit false
namespace Go.Rv

abbrev Env := Nat → Value
abbrev KV := Value → World → Prop

def upd (e : Env) (d : Nat) (v : Value) : Env := fun t => cond (Nat.beq t d) v (e t)
def putE (e : Env) : Option Tmp → Value → Env
  | some d, v => upd e d v
  | none, _ => e
def evE (e : Env) : Operand → Value
  | .tmp t => e t
  | .const v => v
  | .global g => .pointer (some ⟨g, 0, none⟩)
  | .func f => .func (.func f) #[] #[]

/-- The n-th of a list of values. -/
def g : List Value → Nat → Value
  | [], _ => undef
  | v :: _, 0 => v
  | _ :: l, n + 1 => g l n

/-- What a call is to come to: it returns, with such a value in such a world. -/
def Ret (k : KV) : Ending → World → Prop
  | .returned v, w => k v w
  | _, _ => False

/-! ### Operations with their operands' values -/

inductive VOp where
  | pick (c a b : Value)
  | alloc (t : TypeId)
  | box (t : TypeId) (v : Value)
  | build (t : TypeId) (ps : List (Nat × Value))
  | mkSl (t : TypeId) (n : Nat) (ps : List (Nat × Value))
  | load (t : TypeId) (a : Value)
  | store (t : TypeId) (a v : Value)
  | nilck (v : Value)
  | bin (o : BinOp) (t : TypeId) (x y : Value)
  | un (o : UnOp) (x : Value)
  | conv (s d : TypeId) (x : Value)
  | s2ap (t : TypeId) (x : Value)
  | mkIf (t : TypeId) (x : Value)
  | mkFn (f : Fn) (first cap : List Value)
  | mkMap (t : TypeId) (r : Option Value)
  | make (t : TypeId) (l c : Value)
  | slice (t : TypeId) (x : Value) (lo hi mx : Option Value)
  | fa (t : TypeId) (x : Value) (i : Nat)
  | fld (t : TypeId) (x : Value) (i : Nat)
  | ia (t : TypeId) (x i : Value)
  | idx (t : TypeId) (x i : Value)
  | look (t : TypeId) (x i : Value) (ok : Bool)
  | mapup (t : TypeId) (m k v : Value)
  | range (t : TypeId) (x : Value)
  | next (x : Value) (str : Bool) (ty : TypeId)
  | entry (x : Value)
  | ext (x : Value) (i : Nat)
  | call (f : Value) (args : List Value)
  | bi (b : Builtin) (ats : Array TypeId) (ty : TypeId) (args : List Value)
  | bad

def isPrint : Builtin → Bool
  | .print | .println => true
  | _ => false

def inst (e : Env) (ty : TypeId) : Op → VOp
  | .pick c a b => .pick (evE e c) (evE e a) (evE e b)
  | .alloc t => .alloc t
  | .box t x => .box t (evE e x)
  | .build t ps => .build t (ps.toList.map fun p => (p.1, evE e p.2))
  | .buildSlice t n ps => .mkSl t n (ps.toList.map fun p => (p.1, evE e p.2))
  | .load t a => .load t (evE e a)
  | .store t a v => .store t (evE e a) (evE e v)
  | .nilCheck x => .nilck (evE e x)
  | .binOp o t x y _ => .bin o t (evE e x) (evE e y)
  | .unOp o _ x => .un o (evE e x)
  | .convert s d x => .conv s d (evE e x)
  | .sliceToArrayPointer t x => .s2ap t (evE e x)
  | .makeInterface t x => .mkIf t (evE e x)
  | .makeFunc f a c => .mkFn f (a.toList.map (evE e)) (c.toList.map (evE e))
  | .makeMap t r => .mkMap t (match r with | some x => some (evE e x) | none => none)
  | .makeSlice t l c => .make t (evE e l) (evE e c)
  | .slice t x lo hi mx => .slice t (evE e x) (match lo with | some x => some (evE e x) | none => none) (match hi with | some x => some (evE e x) | none => none) (match mx with | some x => some (evE e x) | none => none)
  | .fieldAddr t x i => .fa t (evE e x) i
  | .field t x i => .fld t (evE e x) i
  | .indexAddr t x i => .ia t (evE e x) (evE e i)
  | .index t x i => .idx t (evE e x) (evE e i)
  | .lookup t x i ok => .look t (evE e x) (evE e i) ok
  | .mapUpdate t m k v => .mapup t (evE e m) (evE e k) (evE e v)
  | .insert t m k v => .mapup t (evE e m) (evE e k) (evE e v)
  | .range t x => .range t (evE e x)
  | .next x s => .next (evE e x) s ty
  | .entry x => .entry (evE e x)
  | .extract x i => .ext (evE e x) i
  | .call c =>
    match c.callee with
    | .value f => .call (evE e f) (c.args.toList.map (evE e))
    | .builtin b => cond (isPrint b) .bad (.bi b c.argTypes ty (c.args.toList.map (evE e)))
    | .invoke _ _ => .bad
  | _ => .bad

def VOp.sem : VOp → Sem Next :=
  let v (s : Sem Value) : Sem Next := do pure (.value (← s))
  let u (s : Sem Unit) : Sem Next := do s; pure .skip
  fun
  | .pick c a b => do pure (.value (if ← asBool c then a else b))
  | .alloc t => v (Instr.alloc t true (.tuple #[]))
  | .box t x => v (Instr.box t x)
  | .build t ps => v (Instr.build t ps.toArray)
  | .mkSl t n ps => v (Instr.buildSlice t n ps.toArray)
  | .load t a => v (Instr.loadAt t a)
  | .store t a x => u (Instr.storeAt t a x)
  | .nilck x =>
    match x with
    | .pointer none | .nilIface | .nilFunc => runtimePanic .nilDeref
    | .func (.method _) _ _ => stuck "nilck"
    | x => pure (.value x)
  | .bin o t x y =>
    match x, y with
    | .nilIface, .nilIface => stuck "bin"
    | x, y => v (do eqGuard o t (.tmp 0) (.tmp 0) x y; binOp o t x y)
  | .un o x => v (Op.unary o x)
  | .conv s d x => v (convert s d x)
  | .s2ap t x => v (Instr.arrayAt t x)
  | .mkIf t x => v (Instr.makeInterface t x)
  | .mkFn f a c => v (Instr.makeFunc f a.toArray c.toArray)
  | .mkMap t r => v (Instr.makeMap t r)
  | .make t l c => v (Instr.makeSlice t l c)
  | .slice t x lo hi mx => v (Instr.sliceAt t x lo hi mx)
  | .fa t x i => v (Instr.fieldAt t x i)
  | .fld t x i => v (Instr.field t x i)
  | .ia t x i => v (Instr.indexAt t x i)
  | .idx t x i => v (Instr.index t x i)
  | .look t x i ok => v (Instr.lookup t x i ok)
  | .mapup t m k x => u (Instr.mapUpdate t m k x)
  | .range t x => v (Instr.range t x)
  | .next x s ty => v (Instr.next x s ty)
  | .entry x => v (Instr.entry x)
  | .ext x i => v (Instr.extract x i)
  | .call f args => do let d ← Deferred.ofValue f args.toArray; invoke d.target d.args
  | .bi b ats ty args => builtin b ats ty #[] args.toArray
  | .bad => stuck "bad"

/-- One operation, then what comes. -/
def D0 (P : Program) (o : VOp) (k : KV) (w : World) : Prop :=
  match (VOp.sem o).run P w with
  | .ok (.value v) w' => k v w'
  | .ok .skip w' => k undef w'
  | .ok (.enter f args) w' => Calls P f args w' (Ret k)
  | .ok (.round l f tmps assign body) w' => RoundIn Fence.wide 0 P l f tmps assign body w' (Ret k)
  | _ => False

structure D (P : Program) (o : VOp) (k : KV) (w : World) : Prop where
  out : D0 P o k w

/-- An operation that leaves the world as it is, then what comes. -/
structure Fl (P : Program) (o : VOp) (w : World) (k : Value → Prop) : Prop where
  out : ∃ v, (VOp.sem o).run P w = .ok (.value v) w ∧ k v

/-- An operation under a guard. -/
def GD0 (P : Program) (gv : Value) (want : Bool) (o : VOp) (k : KV) (w : World) : Prop :=
  match gv with
  | .bool b => cond (b == want) (D P o k w) (k undef w)
  | _ => False
def GM0 (gv : Value) (want : Bool) (x : Value) (k : Value → Prop) : Prop :=
  match gv with
  | .bool b => k (cond (b == want) x undef)
  | _ => False

structure GD (P : Program) (gv : Value) (want : Bool) (o : VOp) (k : KV) (w : World) : Prop where
  out : GD0 P gv want o k w
structure GM (gv : Value) (want : Bool) (x : Value) (k : Value → Prop) : Prop where
  out : GM0 gv want x k

def opE (P : Program) (o : Oper) (e : Env) (w : World) (k : KV) : Prop :=
  match o.op with
  | .move x => k (evE e x) w
  | .assign x => k (evE e x) w
  | op => D P (inst e o.type op) k w

def gopE (P : Program) (gv : Value) (want : Bool) (o : Oper) (e : Env) (w : World) (k : KV) : Prop :=
  match o.op with
  | .move x => GM gv want (evE e x) fun v => k v w
  | .assign x => GM gv want (evE e x) fun v => k v w
  | op => GD P gv want (inst e o.type op) k w

def stepE (P : Program) (ops : Array Oper) (o : Oper) (e : Env) (w : World) (k : KV) : Prop :=
  match o.guard with
  | none => opE P o e w k
  | some (j, want) =>
    match ops.toList[j]? with
    | some oj =>
      match oj.dst with
      | some d => gopE P (e d) want o e w k
      | none => False
    | none => False

def opsE (P : Program) (ops : Array Oper) : List Oper → Env → World → (Env → World → Prop) → Prop
  | [], e, w, k => k e w
  | o :: l, e, w, k => stepE P ops o e w fun v w' => opsE P ops l (putE e o.dst v) w' k

/-! ### Soundness of one operation -/

def isMv : Op → Bool
  | .move _ | .assign _ => true
  | _ => false

theorem toArray_map {α β : Type} (f : α → β) (a : Array α) : (a.toList.map f).toArray = a.map f := by
  apply Array.ext'; simp

theorem inst_eq (e : Env) (o : Oper) (h : isMv o.op = false) :
    VOp.sem (inst e o.type o.op) = execOp (evE e) o ∨ ∃ s, VOp.sem (inst e o.type o.op) = stuck s := by
  obtain ⟨dst, op, ty, pos, after, guard⟩ := o
  cases op with
  | move x => simp [isMv] at h
  | assign x => simp [isMv] at h
  | build t ps => exact .inl (by simp only [inst, VOp.sem, execOp, toArray_map])
  | buildSlice t n ps => exact .inl (by simp only [inst, VOp.sem, execOp, toArray_map])
  | makeFunc f a c => exact .inl (by simp only [inst, VOp.sem, execOp, toArray_map])
  | makeMap t r => cases r <;> exact .inl rfl
  | slice t x lo hi mx => cases lo <;> cases hi <;> cases mx <;> exact .inl rfl
  | nilCheck x =>
    simp only [inst, VOp.sem, execOp]
    cases evE e x with
    | pointer a => cases a <;> exact .inl rfl
    | func f a c => cases f <;> first | exact .inl rfl | exact .inr ⟨_, rfl⟩
    | _ => exact .inl rfl
  | binOp op t x y yt =>
    simp only [inst, VOp.sem, execOp]
    generalize evE e x = a
    generalize evE e y = b
    by_cases hab : a = .nilIface ∧ b = .nilIface
    · obtain ⟨rfl, rfl⟩ := hab; exact .inr ⟨_, rfl⟩
    · refine .inl ?_
      have key : eqGuard op t (.tmp 0) (.tmp 0) a b = eqGuard op t x y a b := by
        unfold eqGuard
        cases a <;> cases b <;> first | rfl | exact absurd ⟨rfl, rfl⟩ hab
      rw [← key]
      split
      · exact absurd ⟨rfl, rfl⟩ hab
      · rfl
  | call c =>
    obtain ⟨callee, args, ats⟩ := c
    cases callee with
    | value f => exact .inl (by simp only [inst, VOp.sem, execOp, resolve, toArray_map])
    | builtin b =>
      cases b <;> first
        | exact .inr ⟨_, rfl⟩
        | (refine .inl ?_; simp only [inst, VOp.sem, execOp, resolve, isPrint, cond_false, toArray_map]; rfl)
    | invoke r m => exact .inr ⟨_, rfl⟩
  | _ => first | exact .inl rfl | exact .inr ⟨_, rfl⟩

/-! ### Frames and environments -/

def FR (r : Option Nat) : Fence := { Fence.wide with round := r }
theorem callsIn_FR {r : Option Nat} {P : Program} {f : FuncId} {args : Array Value} {w : World} {R : Ending → World → Prop}
    (h : Calls P f args w R) : CallsIn (FR r) (0 - 1) P f args w R := callsIn_wide.2 h
theorem calls_FR {n : Nat} {P : Program} {f : FuncId} {args : Array Value} {w : World} {R : Ending → World → Prop}
    (h : CallsIn (FR none) n P f args w R) : Calls P f args w R := callsIn_wide.1 h
theorem roundIn_FR {r : Option Nat} {P : Program} {l : Nat} {f : FuncId} {tmps : Array Value} {assign body : Code} {w : World} {R : Ending → World → Prop}
    (h : RoundIn Fence.wide 0 P l f tmps assign body w R) : RoundIn (FR r) (0 - 1) P l f tmps assign body w R := h

structure Agree (n : Nat) (a : Act) (e : Env) : Prop where
  size : a.tmps.size = n
  look : ∀ t, a.tmps.getD t undef = e t

theorem Agree.eval {n : Nat} {a : Act} {e : Env} (h : Agree n a e) : a.eval = evE e := by
  funext x
  cases x <;> simp [Act.eval, evE, ← h.look]

theorem upd_same (e : Env) (d : Nat) (v : Value) : upd e d v d = v := by simp [upd]
theorem upd_other (e : Env) {d t : Nat} (v : Value) (h : t ≠ d) : upd e d v t = e t := by
  have : Nat.beq t d = false := by
    cases h' : Nat.beq t d with
    | false => rfl
    | true => exact absurd (Nat.eq_of_beq_eq_true h') h
  simp [upd, this]

theorem Agree.put {n : Nat} {a : Act} {e : Env} (h : Agree n a e) {dst : Option Tmp} (hd : ∀ d, dst = some d → d < n) (v : Value) :
    Agree n (a.put dst v) (putE e dst v) := by
  cases dst with
  | none => exact h
  | some d =>
    refine ⟨by simp [Act.put, h.size], fun t => ?_⟩
    have hd := hd d rfl
    by_cases ht : t = d
    · subst ht
      simp only [Act.put, putE, upd_same]
      simp [Array.getD_eq_getD_getElem?, h.size, hd]
    · simp only [Act.put, putE, upd_other _ _ ht, ← h.look]
      simp [Array.getD_eq_getD_getElem?, Ne.symm ht]

theorem put_defers (a : Act) (dst : Option Tmp) (v : Value) : (a.put dst v).defers = a.defers := by
  cases dst <;> rfl

section
variable {P : Program} {r : Option Nat} {o : Oper} {a : Act} {e : Env} {w : World} {n : Nat} {k : KV} {next : Act → World → Prop} {Q : Exit → Act → World → Prop}

theorem upon_of_D {vo : VOp} (h : D P vo k w) (hk : ∀ v w', k v w' → next (a.put o.dst v) w') : o.uponIn (FR r) 0 P a next Q ((VOp.sem vo).run P w) := by
  replace h := h.out
  unfold D0 at h
  generalize (VOp.sem vo).run P w = res at *
  cases res with
  | halt x w' => exact h.elim
  | ok x w' =>
    cases x <;> first | exact h.elim | skip
    · exact hk _ _ h
    · exact hk _ _ h
    · refine ⟨(fun hh => by cases hh), callsIn_FR (Calls.mono h ?_)⟩
      intro e w'' he
      cases e with
      | returned v => exact hk _ _ he
      | panicked c => exact he.elim
      | outgrown => exact he.elim
    · refine ⟨(fun hh => by cases hh), roundIn_FR (RoundIn.mono h ?_)⟩
      intro e w'' he
      cases e with
      | returned v => exact hk _ _ he
      | panicked c => exact he.elim
      | outgrown => exact he.elim

theorem isMv_cases (op : Op) : (∃ x, op = .move x ∨ op = .assign x) ∨ isMv op = false := by
  cases op <;> first | exact .inl ⟨_, .inl rfl⟩ | exact .inl ⟨_, .inr rfl⟩ | exact .inr rfl

theorem opE_eq (h : isMv o.op = false) : opE P o e w k = D P (inst e o.type o.op) k w := by
  obtain ⟨dst, op, ty, pos, after, guard⟩ := o
  cases op <;> first | rfl | simp [isMv] at h

theorem gopE_eq {gv : Value} {want : Bool} (h : isMv o.op = false) : gopE P gv want o e w k = GD P gv want (inst e o.type o.op) k w := by
  obtain ⟨dst, op, ty, pos, after, guard⟩ := o
  cases op <;> first | rfl | simp [isMv] at h

theorem D_stuck {vo : VOp} {s : String} (hs : VOp.sem vo = stuck s) : ¬ D P vo k w := by
  intro h; replace h := h.out; unfold D0 at h; rw [hs] at h; exact h

theorem opE_sound (h : opE P o e w k) (ha : Agree n a e) (hk : ∀ v w', k v w' → next (a.put o.dst v) w') : o.wpIn (FR r) 0 P a w next Q := by
  refine ⟨fun _ _ => trivial, ?_⟩
  rcases isMv_cases o.op with ⟨x, hx⟩ | hm
  · have : opE P o e w k = k (evE e x) w := by
      unfold opE; rcases hx with hx | hx <;> rw [hx]
    rw [this] at h
    have hs : (o.semAt (FR r).round a.eval) = pure (.value (evE e x)) := by
      rw [Oper.semAt_eq _ _ _ (by intro c hc; rcases hx with hx | hx <;> rw [hx] at hc <;> cases hc), ha.eval]
      unfold execOp
      rcases hx with hx | hx <;> rw [hx]
    rw [hs]
    exact hk _ _ h
  · rw [opE_eq hm] at h
    rcases inst_eq e o hm with hi | ⟨s, hs⟩
    · have := upon_of_D (o := o) (a := a) (r := r) (next := next) (Q := Q) h hk
      rw [hi] at this
      rw [Oper.semAt_eq _ _ _ (by intro c hc; rw [hc] at h; exact D_stuck rfl h), ha.eval]
      exact this
    · exact absurd h (D_stuck hs)
end

/-! ### Rows of operations -/

def bit (d : Option Tmp) : Nat := match d with | some t => 1 <<< t | none => 0
def wrOps : List Oper → Nat
  | [] => 0
  | o :: l => bit o.dst ||| wrOps l

theorem testBit_bit (d : Option Tmp) (t : Nat) : (bit d).testBit t = true ↔ d = some t := by
  cases d with
  | none => simp [bit]
  | some u => simp [bit, Nat.one_shiftLeft, Nat.testBit_two_pow, eq_comm]

theorem putE_keeps {e : Env} {d : Option Tmp} {v : Value} {t : Nat} (h : (bit d).testBit t = false) : putE e d v t = e t := by
  cases d with
  | none => rfl
  | some u =>
    refine upd_other _ _ fun h' => ?_
    have := (testBit_bit (some u) t).2 (by rw [h'])
    rw [this] at h; cases h

def dstOk (n : Nat) (o : Oper) : Bool := match o.dst with | some d => Nat.blt d n | none => true
theorem dstOk_lt {n : Nat} {o : Oper} (h : dstOk n o = true) : ∀ d, o.dst = some d → d < n := by
  intro d hd
  simp only [dstOk, hd] at h
  simpa [Nat.blt_eq] using h

section
variable {P : Program} {r : Option Nat} {ops : Array Oper} {n : Nat}

theorem yielded_of {a : Act} {e : Env} {j d : Nat} {oj : Oper} {b : Bool} (ha : Agree n a e) (hj : ops.toList[j]? = some oj) (hd : oj.dst = some d) (hb : e d = .bool b) :
    yielded ops a.tmps j = some b := by
  have h1 : ops[j]? = some oj := by rw [← Array.getElem?_toList]; exact hj
  have h2 : a.tmps[d]? = some (.bool b) := by
    have := ha.look d
    rw [hb, Array.getD_eq_getD_getElem?] at this
    cases h : a.tmps[d]? with
    | none => rw [h] at this; simp [undef] at this
    | some x => rw [h] at this; simpa using this
  unfold yielded
  rw [h1]; simp [hd, h2]

theorem stepE_sound {i : Nat} {o : Oper} {a : Act} {e : Env} {w : World} {k : KV} {K : Act → World → Prop} {Q : Exit → Act → World → Prop} (hi : ops[i]? = some o) (ha : Agree n a e)
    (h : stepE P ops o e w k) (hk : ∀ v w', k v w' → K (a.put o.dst v) w') : wpOpIn (FR r) 0 P ops Q i K a w := by
  unfold wpOpIn
  rw [hi]
  unfold stepE at h
  simp only
  cases hg : o.guard with
  | none =>
    rw [hg] at h
    simp only [Region.wanted, hg, if_true]
    exact opE_sound h ha hk
  | some jw =>
    obtain ⟨j, want⟩ := jw
    rw [hg] at h
    simp only at h
    cases hj : ops.toList[j]? with
    | none => rw [hj] at h; exact h.elim
    | some oj =>
      rw [hj] at h
      simp only at h
      cases hd : oj.dst with
      | none => rw [hd] at h; exact h.elim
      | some d =>
        rw [hd] at h
        simp only at h
        rcases isMv_cases o.op with ⟨x, hx⟩ | hm
        · have hgm : gopE P (e d) want o e w k = GM (e d) want (evE e x) (fun v => k v w) := by
            unfold gopE; rcases hx with hx | hx <;> rw [hx]
          rw [hgm] at h
          replace h := h.out
          unfold GM0 at h
          split at h
          case h_2 => exact h.elim
          case h_1 b hb =>
            have hy := yielded_of (ops := ops) ha hj hd hb
            simp only [Region.wanted, hg, hy]
            by_cases hbw : b = want
            · subst hbw
              simp only [BEq.rfl, cond_true, if_true] at h ⊢
              refine opE_sound (k := k) ?_ ha hk
              unfold opE; rcases hx with hx | hx <;> rw [hx] <;> exact h
            · have : (b == want) = false := by simpa using hbw
              rw [this] at h
              have h2 : ((some b : Option Bool) == some want) = false := by simpa using hbw
              rw [h2]
              simp only [Bool.false_eq_true, if_false]
              exact ⟨fun _ _ => trivial, hk _ _ h⟩
        · rw [gopE_eq hm] at h
          replace h := h.out
          unfold GD0 at h
          split at h
          case h_2 => exact h.elim
          case h_1 b hb =>
            have hy := yielded_of (ops := ops) ha hj hd hb
            simp only [Region.wanted, hg, hy]
            by_cases hbw : b = want
            · subst hbw
              simp only [BEq.rfl, cond_true, if_true] at h ⊢
              refine opE_sound (k := k) ?_ ha hk
              rw [opE_eq hm]; exact h
            · have : (b == want) = false := by simpa using hbw
              rw [this] at h
              have h2 : ((some b : Option Bool) == some want) = false := by simpa using hbw
              rw [h2]
              simp only [Bool.false_eq_true, if_false]
              exact ⟨fun _ _ => trivial, hk _ _ h⟩

theorem opsE_sound {Q : Exit → Act → World → Prop} {k : Env → World → Prop} : ∀ (l : List Oper) (pre : List Oper) (a : Act) (e : Env) (w : World), ops.toList = pre ++ l → l.all (dstOk n) = true → Agree n a e →
    opsE P ops l e w k →
    (∀ a' e' w', Agree n a' e' → a'.defers = a.defers → (∀ t, (wrOps l).testBit t = false → e' t = e t) → k e' w' → Q .normal a' w') →
    wpOpsIn (FR r) 0 P ops Q (List.range' pre.length l.length) a w := by
  intro l
  induction l with
  | nil => intro pre a e w _ _ ha h hk; exact hk a e w ha rfl (fun _ _ => rfl) h
  | cons o l ih =>
    intro pre a e w hl hok ha h hk
    simp only [List.all_cons, Bool.and_eq_true] at hok
    have hi : ops[pre.length]? = some o := by rw [← Array.getElem?_toList, hl]; simp
    rw [List.length_cons, List.range'_succ, wpOpsIn_cons]
    refine stepE_sound hi ha h fun v w' hv => ?_
    have := ih (pre ++ [o]) (a.put o.dst v) (putE e o.dst v) w' (by rw [hl]; simp) hok.2 (ha.put (dstOk_lt hok.1) v) hv (fun a' e' w'' ha' hd hfr hk' => by
      refine hk a' e' w'' ha' (by rw [hd, put_defers]) (fun t ht => ?_) hk'
      simp only [wrOps, Nat.testBit_or, Bool.or_eq_false_iff] at ht
      rw [hfr t ht.2, putE_keeps ht.1])
    simpa using this

theorem region_sound {id : Nat} {Q : Exit → Act → World → Prop} {k : Env → World → Prop} {a : Act} {e : Env} {w : World} (hok : ops.toList.all (dstOk n) = true) (ha : Agree n a e)
    (h : opsE P ops ops.toList e w k)
    (hk : ∀ a' e' w', Agree n a' e' → a'.defers = a.defers → (∀ t, (wrOps ops.toList).testBit t = false → e' t = e t) → k e' w' → Q .normal a' w') :
    (Code.region id ops false).wpIn (FR r) 0 P Q a w := by
  refine wpIn_region ?_
  have := opsE_sound (r := r) (Q := Q) ops.toList [] a e w rfl hok ha h hk
  simpa [List.range_eq_range'] using this
end

/-! ### Statements that leave their order open -/

structure Pd where
  i : Nat
  vo : Option VOp
  v : Value

def pureV : VOp → Bool
  | .pick .. | .nilck _ | .ext .. | .mkFn .. => true
  | _ => false

def isEff : Op → Bool
  | .move _ | .assign _ | .pick .. | .build .. | .load .. | .nilCheck _ | .binOp .. | .unOp .. | .fieldAddr .. | .field .. | .indexAddr .. | .index .. | .lookup .. | .extract .. | .makeFunc .. | .slice .. | .makeInterface .. => false
  | .call { callee := .builtin .len, .. } => false
  | .call { callee := .builtin .cap, .. } => false
  | .call { callee := .builtin .max, .. } => false
  | .call { callee := .builtin .min, .. } => false
  | .call { callee := .builtin .unsafeSliceData, .. } => false
  | _ => true

def St1 (P : Program) (q : Option VOp) (v : Value) (w : World) : Prop :=
  match q with
  | none => True
  | some vo => (VOp.sem vo).run P w = .ok (.value v) w

def GF0 (P : Program) (gv : Value) (want : Bool) (vo : VOp) (w : World) (K : Option VOp → Value → Prop) : Prop :=
  match gv with
  | .bool b => cond (b == want) (Fl P vo w fun v => K (some vo) v) (K none undef)
  | _ => False

structure GF (P : Program) (gv : Value) (want : Bool) (vo : VOp) (w : World) (K : Option VOp → Value → Prop) : Prop where
  out : GF0 P gv want vo w K

def stepF (P : Program) (ops : List Oper) (o : Oper) (e : Env) (w : World) (K : Option VOp → Value → Prop) : Prop :=
  match o.guard with
  | none =>
    match o.op with
    | .move x => K none (evE e x)
    | .assign x => K none (evE e x)
    | op => Fl P (inst e o.type op) w fun v => K (some (inst e o.type op)) v
  | some (j, want) =>
    match ops[j]? with
    | some oj =>
      match oj.dst with
      | some d =>
        match o.op with
        | .move x => GM (e d) want (evE e x) fun v => K none v
        | .assign x => GM (e d) want (evE e x) fun v => K none v
        | op => GF P (e d) want (inst e o.type op) w K
      | none => False
    | none => False

def foldA (A : List Nat) (es : List Edge) : Nat :=
  es.foldl (fun s e => cond (Region.binds .any e) (s ||| (1 <<< e.on) ||| A.getD e.on 0) s) 0
def ancL : List Oper → List Nat → List Nat
  | [], acc => acc
  | o :: l, acc => ancL l (acc ++ [foldA acc o.after.toList])
def effM : List Oper → Nat → Nat
  | [], _ => 0
  | o :: l, i => cond (isEff o.op) (1 <<< i ||| effM l (i + 1)) (effM l (i + 1))
def sub (a b : Nat) : Bool := Nat.beq (a ||| b) b

def evalF (P : Program) (ops : List Oper) (A : List Nat) : List Nat → Nat → Env → World → (Nat → Env → List Pd → Prop) → Prop
  | [], Z, e, _, K => K Z e []
  | i :: l, Z, e, w, K =>
    match ops[i]? with
    | none => False
    | some o =>
      cond (!Z.testBit i && sub (A.getD i 0) Z)
        (stepF P ops o e w fun q v => evalF P ops A l (Z ||| 1 <<< i) (putE e o.dst v) w fun Z' e' ps => K Z' e' (⟨i, q, v⟩ :: ps)) False

def StAll (P : Program) (l : List (Option VOp × Value)) (w : World) : Prop := ∀ p ∈ l, St1 P p.1 p.2 w
def AndS (P : Program) (l : List (Option VOp × Value)) (w : World) (q : Prop) : Prop :=
  match l with
  | [] => q
  | p :: l => StAll P (p :: l) w ∧ q
def pureQ : Option VOp → Bool
  | none => true
  | some vo => pureV vo
def consO (b : Bool) (q : Option VOp) (v : Value) (l : List (Option VOp × Value)) : List (Option VOp × Value) := cond b l ((q, v) :: l)
def opens (Ai : Nat) : List Pd → List (Option VOp × Value)
  | [] => []
  | p :: l => consO (Ai.testBit p.i || pureQ p.vo) p.vo p.v (opens Ai l)
def AllN : List Nat → (Nat → Prop) → Prop
  | [], _ => True
  | [i], p => p i
  | i :: l, p => p i ∧ AllN l p
def keepO (Ai : Nat) : List Pd → List Pd
  | [] => []
  | p :: l => cond (Ai.testBit p.i) (keepO Ai l) (p :: keepO Ai l)

def floatsL (n : Nat) (A : List Nat) (E Z Y : Nat) : List Nat := (List.range n).filter fun i => !E.testBit i && !Z.testBit i && sub (A.getD i 0 &&& E) Y
def nextL (n : Nat) (A : List Nat) (E Y : Nat) : List Nat := (List.range n).filter fun i => E.testBit i && !Y.testBit i && sub (A.getD i 0 &&& E) Y

def TPost (P : Program) (ops : Array Oper) (A : List Nat) (E : Nat) (k : Env → World → Prop) (rec : Nat → Nat → List Pd → Env → World → Prop) (Z Y : Nat) (op : List Pd) (e : Env) (w : World) : Prop :=
  cond (Nat.beq Y E) (cond (Nat.beq Z (2 ^ ops.toList.length - 1)) (k e w) False)
    (AllN (nextL ops.toList.length A E Y) fun i =>
      match ops.toList[i]? with
      | none => False
      | some o =>
        cond (sub (A.getD i 0) Z && !Z.testBit i)
          (stepE P ops o e w fun v w' =>
            AndS P (opens (A.getD i 0) op) w' (rec (Z ||| 1 <<< i) (Y ||| 1 <<< i) (keepO (A.getD i 0) op) (putE e o.dst v) w')) False)

def T (P : Program) (ops : Array Oper) (A : List Nat) (E : Nat) (k : Env → World → Prop) : Nat → Nat → Nat → List Pd → Env → World → Prop
  | 0, _, _, _, _, _ => False
  | f + 1, Z, Y, op, e, w =>
    evalF P ops.toList A (floatsL ops.toList.length A E Z Y) Z e w fun Z' e' ps => TPost P ops A E k (T P ops A E k f) Z' Y (op ++ ps) e' w

def cntM : List Oper → Nat
  | [] => 0
  | o :: l => cond (isEff o.op) (cntM l + 1) (cntM l)

def drawE (P : Program) (ops : Array Oper) (e : Env) (w : World) (k : Env → World → Prop) : Prop :=
  T P ops (ancL ops.toList []) (effM ops.toList 0) k (cntM ops.toList + 1) 0 0 [] e w

def callL (c : Call) : List Operand := (match c.callee with | .value f => [f] | .invoke r _ => [r] | .builtin _ => []) ++ c.args.toList
def optL (o : Option Operand) : List Operand := match o with | some x => [x] | none => []
def selL : List SelectCase → List Operand
  | [] => []
  | c :: l => c.chan :: (optL c.send ++ selL l)
def opL : Op → List Operand
  | .alloc _ | .ready _ | .waits _ => []
  | .move x | .assign x | .box _ x | .load _ x | .nilCheck x | .unOp _ _ x | .convert _ _ x | .sliceToArrayPointer _ x | .makeInterface _ x
  | .makeChan _ x | .fieldAddr _ x _ | .field _ x _ | .range _ x | .next x _ | .entry x | .typeAssert x _ _ _ | .extract x _ | .panic x | .recv _ x _ => [x]
  | .pick c a b => [c, a, b]
  | .build _ ps | .buildSlice _ _ ps => ps.toList.map (·.2)
  | .store _ a v | .binOp _ _ a v _ | .makeSlice _ a v | .indexAddr _ a v | .index _ a v | .lookup _ a v _ | .mapEntry _ a v | .send a v => [a, v]
  | .makeFunc _ first captured => first.toList ++ captured.toList
  | .makeMap _ r => optL r
  | .slice _ x l h m => x :: (optL l ++ (optL h ++ optL m))
  | .mapUpdate _ m k v | .entryStore _ m k v | .insert _ m k v => [m, k, v]
  | .call c | .go c | .defer c => callL c
  | .select cs _ => selL cs.toList
theorem opL_eq (op : Op) (h : ∀ cs b, op ≠ .select cs b) : op.operands.toList = opL op := by
  cases op with
  | select cs b => exact absurd rfl (h cs b)
  | call c => obtain ⟨cc, a, t⟩ := c; cases cc <;> simp [Op.operands, Call.operands, opL, callL]
  | go c => obtain ⟨cc, a, t⟩ := c; cases cc <;> simp [Op.operands, Call.operands, opL, callL]
  | defer c => obtain ⟨cc, a, t⟩ := c; cases cc <;> simp [Op.operands, Call.operands, opL, callL]
  | slice t x l hi m => cases l <;> cases hi <;> cases m <;> simp [Op.operands, opL, optL]
  | makeMap t r => cases r <;> simp [Op.operands, opL, optL]
  | _ => simp [Op.operands, opL]

def looks (ops : List Oper) (o : Oper) : List Tmp :=
  ((opL o.op).filterMap fun | .tmp t => some t | _ => none) ++
  (match o.guard with
   | some (j, _) => match ops[j]? with | some oj => oj.dst.toList | none => []
   | none => [])
def apartO (ops : List Oper) (x y : Oper) : Bool :=
  match x.dst with
  | some d => !(looks ops y).contains d && y.dst != some d
  | none => true
def drawOk (ops : List Oper) : Bool :=
  let A := ancL ops []
  (ops.zipIdx.all fun (o, i) => Nat.beq (A.getD i 0) (foldA A o.after.toList) && o.after.toList.all fun e => !Region.binds .any e || Nat.blt e.on i) &&
  (ops.zipIdx.all fun (x, i) => ops.zipIdx.all fun (y, j) => Nat.beq i j || (A.getD i 0).testBit j || (A.getD j 0).testBit i || (apartO ops x y && apartO ops y x))

/-! ### Their soundness: whatever order the edges allow comes to the same -/

theorem inst_congr {e e' : Env} (ty : TypeId) (op : Op) (h : ∀ x ∈ op.operands, evE e x = evE e' x) : inst e ty op = inst e' ty op := by
  cases op with
  | build t ps =>
    have : ∀ p ∈ ps.toList, (p.1, evE e p.2) = (p.1, evE e' p.2) := fun p hp => by
      rw [h p.2 (by simp only [Op.operands, List.mem_toArray, List.mem_map]; exact ⟨p, hp, rfl⟩)]
    simp only [inst]; rw [List.map_congr_left this]
  | buildSlice t n ps =>
    have : ∀ p ∈ ps.toList, (p.1, evE e p.2) = (p.1, evE e' p.2) := fun p hp => by
      rw [h p.2 (by simp only [Op.operands, List.mem_toArray, List.mem_map]; exact ⟨p, hp, rfl⟩)]
    simp only [inst]; rw [List.map_congr_left this]
  | makeFunc f a c =>
    have h1 : ∀ p ∈ a.toList, evE e p = evE e' p := fun p hp => h p (by simp [Op.operands]; exact .inl (by simpa using hp))
    have h2 : ∀ p ∈ c.toList, evE e p = evE e' p := fun p hp => h p (by simp [Op.operands]; exact .inr (by simpa using hp))
    simp only [inst]; rw [List.map_congr_left h1, List.map_congr_left h2]
  | makeMap t r => cases r <;> simp_all [inst, Op.operands]
  | slice t x lo hi mx => cases lo <;> cases hi <;> cases mx <;> simp_all [inst, Op.operands]
  | call c =>
    obtain ⟨callee, args, ats⟩ := c
    have h1 : ∀ p ∈ args.toList, evE e p = evE e' p := fun p hp => h p (by simp [Op.operands, Call.operands]; exact .inr (by simpa using hp))
    cases callee with
    | value f =>
      have h2 : evE e f = evE e' f := h f (by simp [Op.operands, Call.operands])
      simp only [inst]; rw [List.map_congr_left h1, h2]
    | builtin b => simp only [inst]; rw [List.map_congr_left h1]
    | invoke r m => rfl
  | _ => simp_all [inst, Op.operands]

theorem evE_look {ops : List Oper} {o : Oper} {e e' : Env} (hs : ∀ cs b, o.op ≠ .select cs b) (h : ∀ t ∈ looks ops o, e t = e' t) : ∀ x ∈ o.op.operands, evE e x = evE e' x := by
  intro x hx
  cases x with
  | tmp t =>
    refine h t ?_
    simp only [looks, List.mem_append, List.mem_filterMap]
    exact .inl ⟨.tmp t, by rw [← opL_eq _ hs]; simpa using hx, rfl⟩
  | _ => rfl
theorem inst_select {e : Env} {ty : TypeId} {op : Op} (h : ¬ ∀ cs b, op ≠ .select cs b) : inst e ty op = .bad := by
  cases op with
  | select cs b => rfl
  | _ => exact absurd (fun _ _ => by simp) h
theorem inst_looks {ops : List Oper} {o : Oper} {e e' : Env} (h : ∀ t ∈ looks ops o, e t = e' t) : inst e o.type o.op = inst e' o.type o.op := by
  by_cases hs : ∀ cs b, o.op ≠ .select cs b
  · exact inst_congr _ _ (evE_look hs h)
  · rw [inst_select hs, inst_select hs]

theorem look_guard {ops : List Oper} {o oj : Oper} {j d : Nat} {want : Bool} (hg : o.guard = some (j, want)) (hj : ops[j]? = some oj) (hd : oj.dst = some d) : d ∈ looks ops o := by
  simp [looks, hg, hj, hd]

theorem stepE_congr {P : Program} {ops : Array Oper} {o : Oper} {e e' : Env} {w : World} {k : KV} (h : ∀ t ∈ looks ops.toList o, e t = e' t) (hs : stepE P ops o e w k) : stepE P ops o e' w k := by
  have hev := inst_looks h
  have hmv : ∀ x, (o.op = .move x ∨ o.op = .assign x) → evE e x = evE e' x := by
    intro x hx
    refine evE_look (by intro cs b hc; rcases hx with hx | hx <;> rw [hx] at hc <;> cases hc) h x ?_
    rcases hx with hx | hx <;> rw [hx] <;> simp [Op.operands]
  unfold stepE at *
  cases hg : o.guard with
  | none =>
    rw [hg] at hs
    simp only at hs ⊢
    rcases isMv_cases o.op with ⟨x, hx⟩ | hm
    · have := hmv x hx
      unfold opE at *
      rcases hx with hx | hx <;> rw [hx] at hs ⊢ <;> simpa [this] using hs
    · rw [opE_eq hm] at *; rw [← hev]; exact hs
  | some jw =>
    obtain ⟨j, want⟩ := jw
    rw [hg] at hs
    simp only at hs ⊢
    cases hj : ops.toList[j]? with
    | none => rw [hj] at hs; exact hs.elim
    | some oj =>
      rw [hj] at hs
      simp only at hs ⊢
      cases hd : oj.dst with
      | none => rw [hd] at hs; exact hs.elim
      | some d =>
        rw [hd] at hs
        simp only at hs ⊢
        rw [← h d (look_guard hg hj hd)]
        rcases isMv_cases o.op with ⟨x, hx⟩ | hm
        · have := hmv x hx
          unfold gopE at *
          rcases hx with hx | hx <;> rw [hx] at hs ⊢ <;> simpa [this] using hs
        · rw [gopE_eq hm] at *; rw [← hev]; exact hs

/-- An operation's value, once found, serves in whatever world it is found again. -/
def EvQ (P : Program) (ops : Array Oper) (o : Oper) (e : Env) (q : Option VOp) (v : Value) : Prop :=
  ∀ (w : World) (k : KV), St1 P q v w → k v w → stepE P ops o e w k

theorem stepF_spec {P : Program} {ops : Array Oper} {o : Oper} {e : Env} {w : World} {K : Option VOp → Value → Prop} (h : stepF P ops.toList o e w K) :
    ∃ q v, K q v ∧ St1 P q v w ∧ EvQ P ops o e q v := by
  have fl : ∀ {vo : VOp} {k : Value → Prop}, Fl P vo w k → ∃ v, k v ∧ St1 P (some vo) v w := fun h => by obtain ⟨v, h1, h2⟩ := h.out; exact ⟨v, h2, h1⟩
  unfold stepF at h
  cases hg : o.guard with
  | none =>
    rw [hg] at h
    simp only at h
    rcases isMv_cases o.op with ⟨x, hx⟩ | hm
    · refine ⟨none, evE e x, ?_, trivial, fun w' k _ hk => ?_⟩
      · rcases hx with hx | hx <;> rw [hx] at h <;> exact h
      · unfold stepE; rw [hg]; unfold opE; rcases hx with hx | hx <;> rw [hx] <;> exact hk
    · have h' : Fl P (inst e o.type o.op) w fun v => K (some (inst e o.type o.op)) v := by
        revert h hm; generalize o.op = op; cases op <;> intro h hm <;> first | exact h | simp [isMv] at hm
      obtain ⟨v, hk, hs⟩ := fl h'
      refine ⟨_, v, hk, hs, fun w' k hs' hk' => ?_⟩
      unfold stepE; rw [hg]; simp only; rw [opE_eq hm]
      refine ⟨?_⟩; unfold D0; simp only [St1] at hs'; rw [hs']; exact hk'
  | some jw =>
    obtain ⟨j, want⟩ := jw
    rw [hg] at h
    simp only at h
    cases hj : ops.toList[j]? with
    | none => rw [hj] at h; exact h.elim
    | some oj =>
      rw [hj] at h
      simp only at h
      cases hd : oj.dst with
      | none => rw [hd] at h; exact h.elim
      | some d =>
        rw [hd] at h
        simp only at h
        rcases isMv_cases o.op with ⟨x, hx⟩ | hm
        · have h' : GM (e d) want (evE e x) fun v => K none v := by rcases hx with hx | hx <;> rw [hx] at h <;> exact h
          replace h' := h'.out
          unfold GM0 at h'
          split at h'
          case h_2 => exact h'.elim
          case h_1 b hb =>
            refine ⟨none, _, h', trivial, fun w' k _ hk => ?_⟩
            unfold stepE; rw [hg]; simp only; rw [hj]; simp only; rw [hd]; simp only
            have : gopE P (e d) want o e w' k = GM (e d) want (evE e x) (fun v => k v w') := by unfold gopE; rcases hx with hx | hx <;> rw [hx]
            rw [this]; refine ⟨?_⟩; unfold GM0; rw [hb]; exact hk
        · have h' : GF P (e d) want (inst e o.type o.op) w K := by
            revert h hm; generalize o.op = op; cases op <;> intro h hm <;> first | exact h | simp [isMv] at hm
          replace h' := h'.out
          unfold GF0 at h'
          split at h'
          case h_2 => exact h'.elim
          case h_1 b hb =>
            cases hbw : b == want with
            | false =>
              rw [hbw] at h'
              refine ⟨none, undef, h', trivial, fun w' k _ hk => ?_⟩
              unfold stepE; rw [hg]; simp only; rw [hj]; simp only; rw [hd]; simp only
              rw [gopE_eq hm]; refine ⟨?_⟩; unfold GD0; rw [hb]; simp only [hbw]; exact hk
            | true =>
              rw [hbw] at h'
              obtain ⟨v, hk, hs⟩ := fl h'
              refine ⟨_, v, hk, hs, fun w' k hs' hk' => ?_⟩
              unfold stepE; rw [hg]; simp only; rw [hj]; simp only; rw [hd]; simp only
              rw [gopE_eq hm]; refine ⟨?_⟩; unfold GD0; rw [hb]; simp only [hbw]
              refine ⟨?_⟩; unfold D0; simp only [St1] at hs'; rw [hs']; exact hk'

theorem pure_world {P : Program} {vo : VOp} {v : Value} {w w' : World} (hp : pureV vo = true) (h : (VOp.sem vo).run P w = .ok (.value v) w) : (VOp.sem vo).run P w' = .ok (.value v) w' := by
  cases vo with
  | pick c a b =>
    cases c <;> simp [VOp.sem, asBool, stuck, bind, Sem.bind, Sem.run, pure] at h ⊢
    exact h
  | nilck x =>
    have key : ∀ x : Value, (pure (.value x) : Sem Next).run P w = .ok (.value v) w → (pure (.value x) : Sem Next).run P w' = .ok (.value v) w' := fun x h => by
      simp [pure, Sem.run] at h ⊢; exact h
    simp only [VOp.sem] at h ⊢
    split at h
    · simp [runtimePanic, program, goPanic, bind, Sem.bind, Sem.run] at h
    · simp [runtimePanic, program, goPanic, bind, Sem.bind, Sem.run] at h
    · simp [runtimePanic, program, goPanic, bind, Sem.bind, Sem.run] at h
    · simp [stuck, Sem.run] at h
    · exact key _ h
  | ext x i =>
    simp only [VOp.sem, Instr.extract] at h ⊢
    split at h
    · split at h
      · simp [bind, Sem.bind, pure, Sem.run] at h ⊢; simp_all [bind, Sem.bind, pure, Sem.run]
      · simp [stuck, bind, Sem.bind, Sem.run] at h
    · simp [stuck, bind, Sem.bind, Sem.run] at h
  | mkFn f a c => simp [VOp.sem, Instr.makeFunc, bind, Sem.bind, pure, Sem.run] at h ⊢; exact h
  | _ => simp [pureV] at hp

def PendOK (P : Program) (ops : Array Oper) (w : World) : Env → List Pd → Env → Prop
  | e, [], e' => e = e'
  | e, p :: ps, e' => ∃ o, ops.toList[p.i]? = some o ∧ EvQ P ops o e p.vo p.v ∧ St1 P p.vo p.v w ∧ PendOK P ops w (putE e o.dst p.v) ps e'

section
variable {P : Program} {ops : Array Oper}

theorem PendOK.append {w : World} {e' e'' : Env} {b : List Pd} : ∀ {a : List Pd} {e : Env}, PendOK P ops w e a e' → PendOK P ops w e' b e'' → PendOK P ops w e (a ++ b) e'' := by
  intro a
  induction a with
  | nil => intro e h1 h2; simp only [PendOK] at h1; subst h1; exact h2
  | cons p ps ih => intro e h1 h2; obtain ⟨o, ho, hq, hs, hr⟩ := h1; exact ⟨o, ho, hq, hs, ih hr h2⟩

theorem PendOK.split {w : World} {e'' : Env} {b : List Pd} : ∀ {a : List Pd} {e : Env}, PendOK P ops w e (a ++ b) e'' → ∃ e', PendOK P ops w e a e' ∧ PendOK P ops w e' b e'' := by
  intro a
  induction a with
  | nil => intro e h; exact ⟨e, rfl, h⟩
  | cons p ps ih => intro e h; obtain ⟨o, ho, hq, hs, hr⟩ := h; obtain ⟨e', h1, h2⟩ := ih hr; exact ⟨e', ⟨o, ho, hq, hs, h1⟩, h2⟩

/-- Two operations of which neither writes what the other one names. -/
def Ap (ops : Array Oper) (x y : Oper) : Prop := ∀ d, x.dst = some d → d ∉ looks ops.toList y ∧ y.dst ≠ some d

theorem putE_other {e : Env} {dst : Option Tmp} {v : Value} {t : Nat} (h : dst ≠ some t) : putE e dst v t = e t := by
  cases dst with
  | none => rfl
  | some d => exact upd_other _ _ (fun h' => h (by rw [h']))

theorem putE_comm {e : Env} {a b : Option Tmp} {u v : Value} (h : ∀ d, a = some d → b ≠ some d) : putE (putE e a u) b v = putE (putE e b v) a u := by
  cases a with
  | none => rfl
  | some d =>
    cases b with
    | none => rfl
    | some d' =>
      have hne : d' ≠ d := fun h' => h d rfl (by rw [h'])
      funext t
      simp only [putE]
      by_cases h1 : t = d'
      · subst h1; rw [upd_same, upd_other _ _ hne, upd_same]
      · rw [upd_other _ _ h1]
        by_cases h2 : t = d
        · subst h2; rw [upd_same, upd_same]
        · rw [upd_other _ _ h2, upd_other _ _ h2, upd_other _ _ h1]

theorem EvQ.congr {o : Oper} {e e' : Env} {q : Option VOp} {v : Value} (h : EvQ P ops o e q v) (he : ∀ t ∈ looks ops.toList o, e t = e' t) : EvQ P ops o e' q v :=
  fun w k hs hk => stepE_congr he (h w k hs hk)

/-- Slots that no pending operation writes are as they were. -/
theorem PendOK.keeps {w : World} {e' : Env} {t : Nat} : ∀ {a : List Pd} {e : Env}, PendOK P ops w e a e' → (∀ p ∈ a, ∀ o, ops.toList[p.i]? = some o → o.dst ≠ some t) → e' t = e t := by
  intro a
  induction a with
  | nil => intro e h _; simp only [PendOK] at h; rw [h]
  | cons p ps ih =>
    intro e h hn
    obtain ⟨o, ho, _, _, hr⟩ := h
    rw [ih hr (fun q hq => hn q (List.mem_cons_of_mem _ hq)), putE_other (hn p (List.mem_cons_self ..) o ho)]

/-- A value is put ahead of pending operations that have nothing to do with it. -/
theorem PendOK.putAhead {w : World} {e' : Env} {x : Oper} {v : Value} : ∀ {a : List Pd} {e : Env}, PendOK P ops w e a e' →
    (∀ p ∈ a, ∀ o, ops.toList[p.i]? = some o → Ap ops x o ∧ Ap ops o x) → PendOK P ops w (putE e x.dst v) a (putE e' x.dst v) := by
  intro a
  induction a with
  | nil => intro e h _; simp only [PendOK] at h ⊢; rw [h]
  | cons p ps ih =>
    intro e h hn
    obtain ⟨o, ho, hq, hs, hr⟩ := h
    obtain ⟨h1, h2⟩ := hn p (List.mem_cons_self ..) o ho
    refine ⟨o, ho, hq.congr fun t ht => ?_, hs, ?_⟩
    · rw [putE_other]; intro hd; exact (h1 t hd).1 ht
    · rw [putE_comm fun d hd => (h1 d hd).2]
      exact ih hr fun q hq => hn q (List.mem_cons_of_mem _ hq)

theorem PendOK.world {w w' : World} {e' : Env} : ∀ {a : List Pd} {e : Env}, PendOK P ops w e a e' → (∀ p ∈ a, St1 P p.vo p.v w → St1 P p.vo p.v w') → PendOK P ops w' e a e' := by
  intro a
  induction a with
  | nil => intro e h _; exact h
  | cons p ps ih =>
    intro e h hn
    obtain ⟨o, ho, hq, hs, hr⟩ := h
    exact ⟨o, ho, hq, hn p (List.mem_cons_self ..) hs, ih hr fun q hq => hn q (List.mem_cons_of_mem _ hq)⟩

theorem nbeq {a b : Nat} : Nat.beq a b = true ↔ a = b := ⟨Nat.eq_of_beq_eq_true, fun h => by subst h; exact Nat.beq_refl a⟩

theorem sub_iff {a b : Nat} : sub a b = true ↔ ∀ j, a.testBit j = true → b.testBit j = true := by
  unfold sub
  rw [nbeq]
  constructor
  · intro h j hj
    rw [← h, Nat.testBit_or, hj, Bool.true_or]
  · intro h
    apply Nat.eq_of_testBit_eq
    intro j
    rw [Nat.testBit_or]
    cases ha : a.testBit j with
    | false => simp
    | true => simp [h j ha]

theorem testBit_one_shl {i j : Nat} : (1 <<< i).testBit j = true ↔ i = j := by
  rw [Nat.one_shiftLeft, Nat.testBit_two_pow]; simp

theorem testBit_orBit {Z i j : Nat} : (Z ||| 1 <<< i).testBit j = true ↔ (Z.testBit j = true ∨ i = j) := by
  rw [Nat.testBit_or, Bool.or_eq_true, testBit_one_shl]

theorem evalF_spec {A : List Nat} {w : World} : ∀ (l : List Nat) (Z : Nat) (e : Env) (K : Nat → Env → List Pd → Prop), evalF P ops.toList A l Z e w K →
    ∃ Z' e' ps, K Z' e' ps ∧ PendOK P ops w e ps e' ∧ ps.map (·.i) = l ∧ l.Nodup ∧ (∀ i ∈ l, Z.testBit i = false ∧ i < ops.toList.length) ∧
      (∀ j, Z'.testBit j = true ↔ Z.testBit j = true ∨ j ∈ l) ∧
      (∀ pre p post, ps = pre ++ p :: post → ∀ j, (A.getD p.i 0).testBit j = true → Z.testBit j = true ∨ j ∈ pre.map (·.i)) := by
  intro l
  induction l with
  | nil => intro Z e K h; exact ⟨Z, e, [], h, rfl, rfl, List.nodup_nil, by simp, by simp, by simp⟩
  | cons i l ih =>
    intro Z e K h
    simp only [evalF] at h
    cases ho : ops.toList[i]? with
    | none => rw [ho] at h; exact h.elim
    | some o =>
      rw [ho] at h
      simp only at h
      cases hc : (!Z.testBit i && sub (A.getD i 0) Z) with
      | false => rw [hc] at h; exact h.elim
      | true =>
        rw [hc] at h
        simp only [cond_true] at h
        simp only [Bool.and_eq_true, Bool.not_eq_true'] at hc
        obtain ⟨q, v, hk, hs, hev⟩ := stepF_spec h
        obtain ⟨Z', e', ps, hK, hp, hm, hnd, hz, hZ', hord⟩ := ih _ _ _ hk
        have hil : i ∉ l := fun hi => by
          have := (hz i hi).1
          rw [testBit_orBit.2 (.inr rfl)] at this; cases this
        refine ⟨Z', e', _, hK, ⟨o, ho, hev, hs, hp⟩, by simp [hm], List.nodup_cons.2 ⟨hil, hnd⟩, ?_, ?_, ?_⟩
        · intro j hj
          rcases List.mem_cons.1 hj with rfl | hj
          · exact ⟨hc.1, (List.getElem?_eq_some_iff.1 ho).1⟩
          · refine ⟨?_, (hz j hj).2⟩
            cases hzj : Z.testBit j with
            | false => rfl
            | true => have := (hz j hj).1; rw [testBit_orBit.2 (.inl hzj)] at this; cases this
        · intro j
          rw [hZ', testBit_orBit, List.mem_cons]
          constructor
          · rintro ((h | h) | h)
            · exact .inl h
            · exact .inr (.inl h.symm)
            · exact .inr (.inr h)
          · rintro (h | h | h)
            · exact .inl (.inl h)
            · exact .inl (.inr h.symm)
            · exact .inr h
        · intro pre p post hpp j hj
          cases pre with
          | nil =>
            simp only [List.nil_append, List.cons.injEq] at hpp
            obtain ⟨rfl, rfl⟩ := hpp
            exact .inl (sub_iff.1 hc.2 j hj)
          | cons p0 pre =>
            simp only [List.cons_append, List.cons.injEq] at hpp
            obtain ⟨rfl, rfl⟩ := hpp
            rcases hord pre p post rfl j hj with h | h
            · rcases testBit_orBit.1 h with h | h
              · exact .inl h
              · exact .inr (by simp [h])
            · exact .inr (by simp only [List.map_cons, List.mem_cons]; exact .inr h)

theorem allN_mem {p : Nat → Prop} : ∀ {l : List Nat}, AllN l p → ∀ i ∈ l, p i
  | [], _, _, h => by cases h
  | [a], h, i, hi => by simp only [List.mem_singleton] at hi; subst hi; exact h
  | a :: b :: l, h, i, hi => by
    rcases List.mem_cons.1 hi with rfl | hi
    · exact h.1
    · exact allN_mem h.2 i hi

theorem andS_spec {l : List (Option VOp × Value)} {w : World} {q : Prop} (h : AndS P l w q) : StAll P l w ∧ q := by
  cases l with
  | nil => exact ⟨(fun p hp => by cases hp), h⟩
  | cons a l => exact h

theorem opens_mem {Ai : Nat} {p : Pd} : ∀ {op : List Pd}, p ∈ op → Ai.testBit p.i = false → pureQ p.vo = false → (p.vo, p.v) ∈ opens Ai op := by
  intro op
  induction op with
  | nil => intro h; cases h
  | cons a l ih =>
    intro h h1 h2
    simp only [opens, consO]
    rcases List.mem_cons.1 h with rfl | h
    · rw [h1, h2]; simp
    · cases hc : (Ai.testBit a.i || pureQ a.vo) with
      | false => simp only [cond_false]; exact List.mem_cons_of_mem _ (ih h h1 h2)
      | true => simp only [cond_true]; exact ih h h1 h2

theorem keepO_mem {Ai : Nat} {p : Pd} : ∀ {op : List Pd}, p ∈ op → Ai.testBit p.i = false → p ∈ keepO Ai op := by
  intro op
  induction op with
  | nil => intro h; cases h
  | cons a l ih =>
    intro h h1
    simp only [keepO]
    rcases List.mem_cons.1 h with rfl | h
    · rw [h1]; simp
    · cases hc : Ai.testBit a.i with
      | false => simp only [cond_false]; exact List.mem_cons_of_mem _ (ih h h1)
      | true => simp only [cond_true]; exact ih h h1
end

def LL (listed : Array Bool) (i : Nat) : Prop := listed.getD i false = true

structure SimSt (ops : Array Oper) (A : List Nat) (E : Nat) (listed : Array Bool) (Z Y : Nat) (pend op : List Pd) : Prop where
  size : listed.size = ops.toList.length
  closed : ∀ i, LL listed i → ∀ j, (A.getD i 0).testBit j = true → LL listed j
  z : ∀ i, i < ops.toList.length → (Z.testBit i = true ↔ LL listed i ∨ i ∈ pend.map (·.i))
  y : ∀ i, i < ops.toList.length → (Y.testBit i = true ↔ LL listed i ∧ E.testBit i = true)
  ylt : ∀ i, Y.testBit i = true → i < ops.toList.length
  zlt : ∀ i, Z.testBit i = true → i < ops.toList.length
  pd : ∀ p ∈ pend, p.i < ops.toList.length ∧ ¬ LL listed p.i ∧ E.testBit p.i = false
  nodup : (pend.map (·.i)).Nodup
  order : ∀ pre p post, pend = pre ++ p :: post → ∀ j, (A.getD p.i 0).testBit j = true → LL listed j ∨ j ∈ pre.map (·.i)
  floats : ∀ i, i < ops.toList.length → E.testBit i = false → sub (A.getD i 0 &&& E) Y = true → Z.testBit i = true
  isub : ∀ p ∈ pend, p ∈ op

theorem foldA_bit {A : List Nat} {j : Nat} : ∀ (es : List Edge) (s : Nat), (es.foldl (fun s e => cond (Region.binds .any e) (s ||| (1 <<< e.on) ||| A.getD e.on 0) s) s).testBit j = true →
    s.testBit j = true ∨ ∃ e ∈ es, Region.binds .any e = true ∧ (j = e.on ∨ (A.getD e.on 0).testBit j = true) := by
  intro es
  induction es with
  | nil => intro s h; exact .inl h
  | cons e es ih =>
    intro s h
    rw [List.foldl_cons] at h
    rcases ih _ h with h | ⟨e', he', h⟩
    · cases hb : Region.binds .any e with
      | false => rw [hb] at h; exact .inl h
      | true =>
        rw [hb] at h
        simp only [cond_true, Nat.testBit_or, Bool.or_eq_true] at h
        rcases h with (h | h) | h
        · exact .inl h
        · exact .inr ⟨e, List.mem_cons_self .., hb, .inl (testBit_one_shl.1 h).symm⟩
        · exact .inr ⟨e, List.mem_cons_self .., hb, .inr h⟩
    · exact .inr ⟨e', List.mem_cons_of_mem _ he', h⟩

structure DrawOk (ops : Array Oper) (A : List Nat) : Prop where
  anc : ∀ i o, ops.toList[i]? = some o → ∀ j, (A.getD i 0).testBit j = true → ∃ e ∈ o.after.toList, Region.binds .any e = true ∧ (j = e.on ∨ (A.getD e.on 0).testBit j = true)
  lt : ∀ i o, ops.toList[i]? = some o → ∀ e ∈ o.after.toList, Region.binds .any e = true → e.on < i
  ap : ∀ i j x y, ops.toList[i]? = some x → ops.toList[j]? = some y → i ≠ j → (A.getD i 0).testBit j = false → (A.getD j 0).testBit i = false → Ap ops x y ∧ Ap ops y x

theorem apartO_spec {ops : Array Oper} {x y : Oper} (h : apartO ops.toList x y = true) : Ap ops x y := by
  intro d hd
  simp only [apartO, hd, Bool.and_eq_true, Bool.not_eq_true'] at h
  refine ⟨fun hm => ?_, fun hy => ?_⟩
  · have := h.1
    rw [List.contains_iff_mem.2 hm] at this; cases this
  · have := h.2
    rw [hy] at this; simp at this

theorem mem_zipIdx_of {α : Type} {l : List α} {i : Nat} {x : α} (h : l[i]? = some x) : (x, i) ∈ l.zipIdx := by
  rw [List.mem_zipIdx_iff_getElem?]; exact h

theorem drawOk_spec {ops : Array Oper} (h : drawOk ops.toList = true) : DrawOk ops (ancL ops.toList []) := by
  simp only [drawOk, Bool.and_eq_true, List.all_eq_true] at h
  obtain ⟨h1, h2⟩ := h
  refine ⟨fun i o ho j hj => ?_, fun i o ho e he hb => ?_, fun i j x y hx hy hne hij hji => ?_⟩
  · have := (h1 (o, i) (mem_zipIdx_of ho)).1
    rw [nbeq] at this
    rw [this] at hj
    rcases foldA_bit _ _ hj with h | h
    · simp at h
    · exact h
  · have := (h1 (o, i) (mem_zipIdx_of ho)).2 e he
    rw [hb] at this
    simpa [Nat.blt_eq] using this
  · have := h2 (x, i) (mem_zipIdx_of hx) (y, j) (mem_zipIdx_of hy)
    simp only [hij, hji, Bool.or_false, Bool.or_eq_true, nbeq, Bool.and_eq_true] at this
    rcases this with h | h
    · exact absurd h hne
    · exact ⟨apartO_spec h.1, apartO_spec h.2⟩

section
variable {P : Program} {ops : Array Oper} {A : List Nat} {E n : Nat} {r : Option Nat} {Q : Exit → Act → World → Prop} {k : Env → World → Prop} {ds : List Deferred}

theorem getD_set {listed : Array Bool} {i j : Nat} (hi : i < listed.size) : LL (listed.setIfInBounds i true) j ↔ LL listed j ∨ i = j := by
  unfold LL
  by_cases h : i = j
  · subst h; simp [Array.getD_eq_getD_getElem?, hi]
  · simp [Array.getD_eq_getD_getElem?, h]

theorem ready_iff {listed : Array Bool} {i : Nat} : i ∈ Region.ready .any ops listed ↔ i < ops.size ∧ listed.getD i true = false ∧ ∃ o, ops.toList[i]? = some o ∧ ∀ e ∈ o.after.toList, Region.binds .any e = true → LL listed e.on := by
  unfold Region.ready LL
  rw [List.mem_filter, List.mem_range]
  simp only [Bool.and_eq_true, Bool.not_eq_true']
  constructor
  · rintro ⟨h1, h2, h3⟩
    refine ⟨h1, h2, ?_⟩
    cases ho : ops[i]? with
    | none => rw [ho] at h3; simp at h3
    | some o =>
      refine ⟨o, by rw [Array.getElem?_toList]; exact ho, fun e he hb => ?_⟩
      rw [ho] at h3
      simp only [Option.map_some, Option.getD_some, Array.all_eq_true_iff_forall_mem] at h3
      have := h3 e (by simpa using he)
      rw [hb] at this; simpa using this
  · rintro ⟨h1, h2, o, ho, h3⟩
    refine ⟨h1, h2, ?_⟩
    rw [Array.getElem?_toList] at ho
    rw [ho]
    simp only [Option.map_some, Option.getD_some, Array.all_eq_true_iff_forall_mem]
    intro e he
    cases hb : Region.binds .any e with
    | false => rfl
    | true => simpa using h3 e (by simpa using he) hb

theorem notListed {listed : Array Bool} {i : Nat} (hs : i < listed.size) : listed.getD i true = false ↔ ¬ LL listed i := by
  unfold LL
  simp [Array.getD_eq_getD_getElem?, hs]

/-- Where nothing is ready everything has been done. -/
theorem ready_nil (hA : DrawOk ops A) {listed : Array Bool} (hs : listed.size = ops.toList.length) (h : Region.ready .any ops listed = []) : ∀ i, i < ops.toList.length → LL listed i := by
  intro i
  induction i using Nat.strongRecOn with
  | _ i ih =>
    intro hi
    apply Classical.byContradiction
    intro hl
    have : i ∈ Region.ready .any ops listed := by
      refine ready_iff.2 ⟨by simpa using hi, (notListed (by rw [hs]; exact hi)).2 hl, ops.toList[i], List.getElem?_eq_getElem hi, fun e he hb => ?_⟩
      have hlt := hA.lt i _ (List.getElem?_eq_getElem hi) e he hb
      exact ih e.on hlt (Nat.lt_trans hlt hi)
    rw [h] at this; cases this

theorem eff_lt : ∀ (l : List Oper) (i j : Nat), (effM l i).testBit j = true → i ≤ j ∧ j < i + l.length := by
  intro l
  induction l with
  | nil => intro i j h; simp [effM] at h
  | cons o l ih =>
    intro i j h
    simp only [effM] at h
    have key : (effM l (i + 1)).testBit j = true → i ≤ j ∧ j < i + (l.length + 1) := fun h => by have := ih _ _ h; omega
    cases hc : isEff o.op with
    | false => rw [hc] at h; exact key h
    | true =>
      rw [hc] at h
      simp only [cond_true, Nat.testBit_or, Bool.or_eq_true] at h
      rcases h with h | h
      · have := testBit_one_shl.1 h; simp only [List.length_cons]; omega
      · exact key h
end

section
variable {P : Program} {ops : Array Oper} {A : List Nat} {E n : Nat} {r : Option Nat} {Q : Exit → Act → World → Prop} {k : Env → World → Prop} {ds : List Deferred}

theorem evQ_step {i : Nat} {o : Oper} {a : Act} {e : Env} {w : World} {q : Option VOp} {v : Value} {K : Act → World → Prop} (hi : ops.toList[i]? = some o) (ha : Agree n a e)
    (hq : EvQ P ops o e q v) (hs : St1 P q v w) (hK : K (a.put o.dst v) w) : wpOpIn (FR r) 0 P ops Q i K a w :=
  stepE_sound (k := fun v' w' => v' = v ∧ w' = w) (by rw [← Array.getElem?_toList]; exact hi) ha (hq w _ hs ⟨rfl, rfl⟩) fun v' w' ⟨h1, h2⟩ => by subst h1; subst h2; exact hK

theorem sim (hA : DrawOk ops A) (hE : ∀ j, E.testBit j = true → j < ops.toList.length) (hok : ops.toList.all (dstOk n) = true) {e0 : Env}
    (hQ : ∀ a' e' w', Agree n a' e' → a'.defers = ds → (∀ t, (wrOps ops.toList).testBit t = false → e' t = e0 t) → k e' w' → Q .normal a' w') :
    ∀ (fuel : Nat) (listed : Array Bool) (Z Y : Nat) (pend op : List Pd) (a : Act) (e e' : Env) (w : World) (f : Nat), SimSt ops A E listed Z Y pend op →
      ((List.range ops.toList.length).filter fun i => !listed.getD i false).length ≤ fuel → PendOK P ops w e pend e' → TPost P ops A E k (T P ops A E k f) Z Y op e' w → Agree n a e → a.defers = ds →
      (∀ t, (wrOps ops.toList).testBit t = false → e t = e0 t) → wpAnyIn (FR r) 0 P .any ops Q fuel listed a w := by
  have hdst : ∀ (i : Nat) (o : Oper), ops.toList[i]? = some o → ∀ d, o.dst = some d → d < n := fun i o ho d hd => by
    rw [List.all_eq_true] at hok
    exact dstOk_lt (hok o (List.mem_of_getElem? ho)) d hd
  have hwr : ∀ (i : Nat) (o : Oper), ops.toList[i]? = some o → ∀ t, (wrOps ops.toList).testBit t = false → (bit o.dst).testBit t = false := by
    intro i o ho t
    have hm := List.mem_of_getElem? ho
    generalize ops.toList = l at hm
    induction l with
    | nil => cases hm
    | cons x l ih =>
      intro ht
      simp only [wrOps, Nat.testBit_or, Bool.or_eq_false_iff] at ht
      rcases List.mem_cons.1 hm with rfl | hm
      · exact ht.1
      · exact ih hm ht.2
  have hfin : ∀ (listed : Array Bool) (Z Y : Nat) (pend op : List Pd) (a : Act) (e e' : Env) (w : World) (f : Nat), SimSt ops A E listed Z Y pend op → PendOK P ops w e pend e' → TPost P ops A E k (T P ops A E k f) Z Y op e' w →
      Agree n a e → a.defers = ds → (∀ t, (wrOps ops.toList).testBit t = false → e t = e0 t) → (∀ i, i < ops.toList.length → LL listed i) → Q .normal a w := by
    intro listed Z Y pend op a e e' w f hS hP hT ha hd hfr hall
    have hpe : pend = [] := by
      cases pend with
      | nil => rfl
      | cons p ps => obtain ⟨h1, h2, _⟩ := hS.pd p (List.mem_cons_self ..); exact absurd (hall _ h1) h2
    subst hpe
    simp only [PendOK] at hP
    subst hP
    have hYE : Y = E := by
      apply Nat.eq_of_testBit_eq
      intro i
      rw [Bool.eq_iff_iff]
      constructor
      · intro h; exact ((hS.y i (hS.ylt i h)).1 h).2
      · intro h; exact (hS.y i (hE i h)).2 ⟨hall i (hE i h), h⟩
    unfold TPost at hT
    have : Nat.beq Y E = true := nbeq.2 hYE
    rw [this] at hT
    have hZ : Nat.beq Z (2 ^ ops.toList.length - 1) = true := by
      refine nbeq.2 (Nat.eq_of_testBit_eq fun i => ?_)
      rw [Nat.testBit_two_pow_sub_one, Bool.eq_iff_iff, decide_eq_true_eq]
      exact ⟨hS.zlt i, fun hi => (hS.z i hi).2 (.inl (hall i hi))⟩
    rw [hZ] at hT
    exact hQ a e w ha hd hfr hT
  intro fuel
  induction fuel with
  | zero =>
    intro listed Z Y pend op a e e' w f hS hc hP hT ha hd hfr
    have hall : ∀ i, i < ops.toList.length → LL listed i := by
      intro i hi
      apply Classical.byContradiction
      intro hl
      have hnil : ((List.range ops.toList.length).filter fun i => !listed.getD i false) = [] := List.eq_nil_of_length_eq_zero (Nat.le_zero.1 hc)
      have : i ∈ (List.range ops.toList.length).filter fun i => !listed.getD i false := by
        rw [List.mem_filter]
        refine ⟨List.mem_range.2 hi, ?_⟩
        unfold LL at hl
        simpa using hl
      rw [hnil] at this; cases this
    refine ⟨?_, hfin listed Z Y pend op a e e' w f hS hP hT ha hd hfr hall⟩
    apply List.eq_nil_iff_forall_not_mem.2
    intro i hi
    obtain ⟨h1, h2, _⟩ := ready_iff.1 hi
    rw [notListed (by rw [hS.size]; simpa using h1)] at h2
    exact h2 (hall i (by simpa using h1))
  | succ fuel ih =>
    intro listed Z Y pend op a e e' w f hS hc hP hT ha hd hfr
    refine ⟨fun hr => hfin listed Z Y pend op a e e' w f hS hP hT ha hd hfr (ready_nil hA hS.size hr), fun i hir => ?_⟩
    obtain ⟨hi, hnl, o, ho, hed⟩ := ready_iff.1 hir
    have hi : i < ops.toList.length := by simpa using hi
    have hil : i < listed.size := by rw [hS.size]; exact hi
    rw [notListed hil] at hnl
    have hanc : ∀ j, (A.getD i 0).testBit j = true → LL listed j := by
      intro j hj
      obtain ⟨ed, he, hb, h⟩ := hA.anc i o ho j hj
      rcases h with rfl | h
      · exact hed ed he hb
      · exact hS.closed _ (hed ed he hb) j h
    have hcnt : ((List.range ops.toList.length).filter fun j => !(listed.setIfInBounds i true).getD j false).length ≤ fuel := by
      have hlt : ((List.range ops.toList.length).filter fun j => !(listed.setIfInBounds i true).getD j false).length < ((List.range ops.toList.length).filter fun j => !listed.getD j false).length := by
        have hsub : ((List.range ops.toList.length).filter fun j => !(listed.setIfInBounds i true).getD j false) = (((List.range ops.toList.length).filter fun j => !listed.getD j false).filter fun j => !(i == j)) := by
          rw [List.filter_filter]
          apply List.filter_congr
          intro j _
          rw [Bool.eq_iff_iff]
          have := getD_set (i := i) (j := j) hil
          unfold LL at this
          simp only [Bool.not_eq_true', Bool.and_eq_true, beq_eq_false_iff_ne]
          rw [← Bool.not_eq_true, this, ← Bool.not_eq_true]
          constructor
          · intro h; exact ⟨fun h' => h (.inr h'), fun h' => h (.inl h')⟩
          · rintro ⟨h1, h2⟩ (h | h)
            · exact h2 h
            · exact h1 h
        rw [hsub]
        apply List.length_filter_lt_length_iff_exists.2
        refine ⟨i, ?_, by simp⟩
        rw [List.mem_filter]
        refine ⟨List.mem_range.2 hi, ?_⟩
        unfold LL at hnl
        simpa using hnl
      omega
    have hfr' : ∀ v t, (wrOps ops.toList).testBit t = false → putE e o.dst v t = e0 t := fun v t ht => by rw [putE_keeps (hwr i o ho t ht)]; exact hfr t ht
    -- the pending ones have nothing to do with it
    have hap : ∀ p ∈ pend, p.i ≠ i → (i ∉ (pend.map (·.i)) ∨ ∃ pre q post, pend = pre ++ q :: post ∧ q.i = i ∧ p ∈ pre) → ∀ o', ops.toList[p.i]? = some o' → Ap ops o o' ∧ Ap ops o' o := by
      intro p hp hpi hcase o' ho'
      have h1 : (A.getD i 0).testBit p.i = false := by
        cases h : (A.getD i 0).testBit p.i with
        | false => rfl
        | true => exact absurd (hanc _ h) (hS.pd p hp).2.1
      have h2 : (A.getD p.i 0).testBit i = false := by
        cases h : (A.getD p.i 0).testBit i with
        | false => rfl
        | true =>
          obtain ⟨pre, post, hpp⟩ := List.append_of_mem hp
          rcases hS.order pre p post hpp i h with h | h
          · exact absurd h hnl
          · rcases hcase with hno | ⟨pre', q, post', hpq, hqi, hmem⟩
            · exact absurd (by rw [hpp]; simp only [List.map_append, List.mem_append]; exact .inl h) hno
            · -- i stands once among them
              exfalso
              obtain ⟨s1, s2, hs⟩ := List.append_of_mem hmem
              obtain ⟨x, hx, hxi⟩ := List.mem_map.1 h
              obtain ⟨u1, u2, hu⟩ := List.append_of_mem hx
              -- pend = u1 ++ x :: u2 ++ p :: post  and  pend = s1 ++ p :: s2 ++ q :: post'
              have hnd := hS.nodup
              have e1 : pend.map (·.i) = u1.map (·.i) ++ i :: (u2.map (·.i) ++ p.i :: post.map (·.i)) := by rw [hpp, hu]; simp [hxi]
              have e2 : pend.map (·.i) = s1.map (·.i) ++ p.i :: (s2.map (·.i) ++ i :: post'.map (·.i)) := by rw [hpq, hs]; simp [hqi]
              have i1 : (pend.map (·.i)).idxOf i = (u1.map (·.i)).length := by
                rw [e1]; rw [e1] at hnd
                rw [List.idxOf_append, if_neg]
                · simp
                · intro hm; exact (List.nodup_append.1 hnd).2.2 i hm i (List.mem_cons_self ..) rfl
              have i2 : (u1.map (·.i)).length < (pend.map (·.i)).idxOf p.i := by
                rw [e1]; rw [e1] at hnd
                have hp1 : p.i ∉ u1.map (·.i) := fun hm => (List.nodup_append.1 hnd).2.2 p.i hm p.i (by simp) rfl
                rw [List.idxOf_append, if_neg hp1, List.idxOf_cons]
                have : (i == p.i) = false := by simpa using fun h => hpi h.symm
                rw [this]; simp only [cond_false]; omega
              have i3 : (pend.map (·.i)).idxOf p.i < (pend.map (·.i)).idxOf i := by
                rw [e2]; rw [e2] at hnd
                have hp1 : p.i ∉ s1.map (·.i) := fun hm => (List.nodup_append.1 hnd).2.2 p.i hm p.i (by simp) rfl
                have hi1 : i ∉ s1.map (·.i) := fun hm => (List.nodup_append.1 hnd).2.2 i hm i (by simp) rfl
                rw [List.idxOf_append, if_neg hp1, List.idxOf_append, if_neg hi1, List.idxOf_cons, List.idxOf_cons]
                have : (p.i == i) = false := by simpa using hpi
                rw [this]; simp
              omega
      exact hA.ap i p.i o o' ho ho' (fun h => hpi h.symm) h1 h2
    cases hEi : E.testBit i with
    | false =>
      have hsub : sub (A.getD i 0 &&& E) Y = true := sub_iff.2 fun j hj => by
        rw [Nat.testBit_and, Bool.and_eq_true] at hj
        exact (hS.y j (hE j hj.2)).2 ⟨hanc j hj.1, hj.2⟩
      have hm : i ∈ pend.map (·.i) := ((hS.z i hi).1 (hS.floats i hi hEi hsub)).resolve_left hnl
      obtain ⟨p, hp, hpi⟩ := List.mem_map.1 hm
      obtain ⟨pre, post, hpp⟩ := List.append_of_mem hp
      have hnd := hS.nodup
      have e1 : pend.map (·.i) = pre.map (·.i) ++ i :: post.map (·.i) := by rw [hpp]; simp [hpi]
      rw [e1] at hnd
      have hni1 : i ∉ pre.map (·.i) := fun hm => (List.nodup_append.1 hnd).2.2 i hm i (List.mem_cons_self ..) rfl
      have hni2 : i ∉ post.map (·.i) := (List.nodup_cons.1 (List.nodup_append.1 hnd).2.1).1
      rw [hpp] at hP
      obtain ⟨em, hP1, o', ho', hq, hs, hP2⟩ := hP.split
      rw [hpi, ho] at ho'
      cases ho'
      have hapre : ∀ q ∈ pre, ∀ o', ops.toList[q.i]? = some o' → Ap ops o o' ∧ Ap ops o' o := fun q hq' =>
        hap q (by rw [hpp]; exact List.mem_append.2 (.inl hq')) (fun h => hni1 (h ▸ List.mem_map.2 ⟨q, hq', rfl⟩)) (.inr ⟨pre, p, post, hpp, hpi, hq'⟩)
      have hem : ∀ t ∈ looks ops.toList o, em t = e t := fun t ht => hP1.keeps fun q hq' o' ho' hd => ((hapre q hq' o' ho').2 t hd).1 ht
      refine evQ_step ho ha (hq.congr hem) hs ?_
      refine ih (listed.setIfInBounds i true) Z Y (pre ++ post) op _ (putE e o.dst p.v) e' w f ?_ hcnt ((hP1.putAhead hapre).append hP2) hT (ha.put (hdst i o ho) _) (by rw [put_defers, hd]) (hfr' _)
      have hin : ∀ q ∈ pre ++ post, q ∈ pend ∧ q.i ≠ i := by
        intro q hq'
        rcases List.mem_append.1 hq' with h | h
        · exact ⟨by rw [hpp]; exact List.mem_append.2 (.inl h), fun h' => hni1 (h' ▸ List.mem_map.2 ⟨q, h, rfl⟩)⟩
        · exact ⟨by rw [hpp]; exact List.mem_append.2 (.inr (List.mem_cons_of_mem _ h)), fun h' => hni2 (h' ▸ List.mem_map.2 ⟨q, h, rfl⟩)⟩
      refine ⟨by simp [hS.size], ?_, ?_, ?_, hS.ylt, hS.zlt, ?_, ?_, ?_, hS.floats, fun q hq' => hS.isub q (hin q hq').1⟩
      · intro j hj t ht
        rw [getD_set hil] at hj ⊢
        rcases hj with hj | rfl
        · exact .inl (hS.closed j hj t ht)
        · exact .inl (hanc t ht)
      · intro j hj
        rw [hS.z j hj, getD_set hil, e1]
        simp only [List.map_append, List.mem_append, List.mem_cons]
        constructor
        · rintro (h | h | h | h)
          · exact .inl (.inl h)
          · exact .inr (.inl h)
          · exact .inl (.inr h.symm)
          · exact .inr (.inr h)
        · rintro ((h | h) | h | h)
          · exact .inl h
          · exact .inr (.inr (.inl h.symm))
          · exact .inr (.inl h)
          · exact .inr (.inr (.inr h))
      · intro j hj
        rw [hS.y j hj, getD_set hil]
        constructor
        · rintro ⟨h1, h2⟩; exact ⟨.inl h1, h2⟩
        · rintro ⟨h1 | h1, h2⟩
          · exact ⟨h1, h2⟩
          · subst h1; rw [hEi] at h2; cases h2
      · intro q hq'
        obtain ⟨h1, h2⟩ := hin q hq'
        obtain ⟨h3, h4, h5⟩ := hS.pd q h1
        exact ⟨h3, fun h => ((getD_set hil).1 h).elim h4 (fun h => h2 h.symm), h5⟩
      · rw [List.map_append]
        obtain ⟨n1, n2, n3⟩ := List.nodup_append.1 hnd
        exact List.nodup_append.2 ⟨n1, (List.nodup_cons.1 n2).2, fun a ha b hb => n3 a ha b (List.mem_cons_of_mem _ hb)⟩
      · intro a q b hab j hj
        rw [getD_set hil]
        rcases List.append_eq_append_iff.1 hab with ⟨c, h1, h2⟩ | ⟨c, h1, h2⟩
        · -- a = pre ++ c, post = c ++ q :: b
          rcases hS.order (pre ++ p :: c) q b (by rw [hpp, h2]; simp) j hj with h | h
          · exact .inl (.inl h)
          · simp only [List.map_append, List.map_cons, List.mem_append, List.mem_cons] at h
            rcases h with h | h | h
            · exact .inr (by rw [h1]; simp only [List.map_append, List.mem_append]; exact .inl h)
            · exact .inl (.inr (by rw [h, hpi]))
            · exact .inr (by rw [h1]; simp only [List.map_append, List.mem_append]; exact .inr h)
        · -- pre = a ++ c, q :: b = c ++ post
          cases c with
          | nil =>
            simp only [List.append_nil, List.nil_append] at h1 h2
            rcases hS.order (pre ++ [p]) q b (by rw [hpp, ← h2]; simp) j hj with h | h
            · exact .inl (.inl h)
            · simp only [List.map_append, List.map_cons, List.map_nil, List.mem_append, List.mem_singleton] at h
              rcases h with h | h
              · exact .inr (by rw [← h1]; exact h)
              · exact .inl (.inr (by rw [h, hpi]))
          | cons x c =>
            simp only [List.cons_append, List.cons.injEq] at h2
            obtain ⟨rfl, rfl⟩ := h2
            rcases hS.order a q (c ++ p :: post) (by rw [hpp, h1]; simp) j hj with h | h
            · exact .inl (.inl h)
            · exact .inr h
    | true =>
      have hYi : Y.testBit i = false := by
        cases h : Y.testBit i with
        | false => rfl
        | true => exact absurd ((hS.y i hi).1 h).1 hnl
      have hsub : sub (A.getD i 0 &&& E) Y = true := sub_iff.2 fun j hj => by
        rw [Nat.testBit_and, Bool.and_eq_true] at hj
        exact (hS.y j (hE j hj.2)).2 ⟨hanc j hj.1, hj.2⟩
      have hYE : Nat.beq Y E = false := by
        cases h : Nat.beq Y E with
        | false => rfl
        | true => rw [nbeq.1 h, hEi] at hYi; cases hYi
      unfold TPost at hT
      rw [hYE] at hT
      simp only [cond_false] at hT
      have hmem : i ∈ nextL ops.toList.length A E Y := by
        unfold nextL
        rw [List.mem_filter]
        exact ⟨List.mem_range.2 hi, by simp only [hEi, hYi, hsub]; rfl⟩
      have hT' := allN_mem hT i hmem
      rw [ho] at hT'
      simp only at hT'
      cases hcc : (sub (A.getD i 0) Z && !Z.testBit i) with
      | false => rw [hcc] at hT'; exact hT'.elim
      | true =>
        rw [hcc] at hT'
        simp only [cond_true] at hT'
        have hno : i ∉ pend.map (·.i) := fun h => by
          obtain ⟨p, hp, hpi⟩ := List.mem_map.1 h
          have := (hS.pd p hp).2.2
          rw [hpi, hEi] at this; cases this
        have hne : ∀ p ∈ pend, p.i ≠ i := fun p hp h => hno (h ▸ List.mem_map.2 ⟨p, hp, rfl⟩)
        have hall : ∀ q ∈ pend, ∀ o', ops.toList[q.i]? = some o' → Ap ops o o' ∧ Ap ops o' o := fun q hq' => hap q hq' (hne q hq') (.inl hno)
        have hee : ∀ t ∈ looks ops.toList o, e' t = e t := fun t ht => hP.keeps fun q hq' o' ho' hd => ((hall q hq' o' ho').2 t hd).1 ht
        have hanc' : ∀ p ∈ pend, (A.getD i 0).testBit p.i = false := fun p hp => by
          cases h : (A.getD i 0).testBit p.i with
          | false => rfl
          | true => exact absurd (hanc _ h) (hS.pd p hp).2.1
        refine stepE_sound (by rw [← Array.getElem?_toList]; exact ho) ha (stepE_congr hee hT') fun v w' hv => ?_
        obtain ⟨hsa, hrec⟩ := andS_spec hv
        cases f with
        | zero => exact hrec.elim
        | succ f =>
          obtain ⟨Z2, e2, ps, hK, hPn, hmap, hnd2, hz2, hZ2, hord⟩ := evalF_spec _ _ _ _ hrec
          have hflt : ∀ j, j ∈ floatsL ops.toList.length A E (Z ||| 1 <<< i) (Y ||| 1 <<< i) ↔ j < ops.toList.length ∧ E.testBit j = false ∧ (Z ||| 1 <<< i).testBit j = false ∧ sub (A.getD j 0 &&& E) (Y ||| 1 <<< i) = true := by
            intro j
            unfold floatsL
            rw [List.mem_filter, List.mem_range]
            simp only [Bool.and_eq_true, Bool.not_eq_true']
            constructor
            · rintro ⟨h1, ⟨h2, h3⟩, h4⟩; exact ⟨h1, h2, h3, h4⟩
            · rintro ⟨h1, h2, h3, h4⟩; exact ⟨h1, ⟨h2, h3⟩, h4⟩
          have hpsl : ∀ p ∈ ps, p.i ∈ floatsL ops.toList.length A E (Z ||| 1 <<< i) (Y ||| 1 <<< i) := fun p hp => by rw [← hmap]; exact List.mem_map.2 ⟨p, hp, rfl⟩
          have hZf : ∀ j, (Z ||| 1 <<< i).testBit j = false → Z.testBit j = false ∧ i ≠ j := fun j h => by
            refine ⟨?_, fun h' => ?_⟩
            · cases hz : Z.testBit j with
              | false => rfl
              | true => rw [testBit_orBit.2 (.inl hz)] at h; cases h
            · rw [testBit_orBit.2 (.inr h')] at h; cases h
          refine ih (listed.setIfInBounds i true) Z2 (Y ||| 1 <<< i) (pend ++ ps) (keepO (A.getD i 0) op ++ ps) _ (putE e o.dst v) e2 w' f ?_ hcnt (((hP.world ?_).putAhead hall).append hPn) hK (ha.put (hdst i o ho) _) (by rw [put_defers, hd]) (hfr' _)
          · refine ⟨by simp [hS.size], ?_, ?_, ?_, ?_, ?_, ?_, ?_, ?_, ?_, ?_⟩
            · intro j hj t ht
              rw [getD_set hil] at hj ⊢
              rcases hj with hj | rfl
              · exact .inl (hS.closed j hj t ht)
              · exact .inl (hanc t ht)
            · intro j hj
              rw [hZ2, testBit_orBit, hS.z j hj, getD_set hil, List.map_append, List.mem_append, hmap]
              constructor
              · rintro (((h | h) | h) | h)
                · exact .inl (.inl h)
                · exact .inr (.inl h)
                · exact .inl (.inr h)
                · exact .inr (.inr h)
              · rintro ((h | h) | h | h)
                · exact .inl (.inl (.inl h))
                · exact .inl (.inr h)
                · exact .inl (.inl (.inr h))
                · exact .inr h
            · intro j hj
              rw [testBit_orBit, hS.y j hj, getD_set hil]
              constructor
              · rintro (⟨h1, h2⟩ | rfl)
                · exact ⟨.inl h1, h2⟩
                · exact ⟨.inr rfl, hEi⟩
              · rintro ⟨h1 | h1, h2⟩
                · exact .inl ⟨h1, h2⟩
                · exact .inr h1
            · intro j hj
              rcases testBit_orBit.1 hj with h | rfl
              · exact hS.ylt j h
              · exact hi
            · intro j hj
              rcases (hZ2 j).1 hj with h | h
              · rcases testBit_orBit.1 h with h | rfl
                · exact hS.zlt j h
                · exact hi
              · exact ((hflt j).1 h).1
            · intro q hq'
              rcases List.mem_append.1 hq' with h | h
              · obtain ⟨h3, h4, h5⟩ := hS.pd q h
                exact ⟨h3, fun h' => ((getD_set hil).1 h').elim h4 (fun h' => hne q h h'.symm), h5⟩
              · obtain ⟨h3, h4, h5, _⟩ := (hflt _).1 (hpsl q h)
                obtain ⟨h6, h7⟩ := hZf _ h5
                refine ⟨h3, fun h' => ((getD_set hil).1 h').elim (fun h' => ?_) h7, h4⟩
                rw [(hS.z _ h3).2 (.inl h')] at h6; cases h6
            · rw [List.map_append]
              refine List.nodup_append.2 ⟨hS.nodup, by rw [hmap]; exact hnd2, fun x hx y hy hxy => ?_⟩
              subst hxy
              rw [hmap] at hy
              obtain ⟨h3, h4, h5, _⟩ := (hflt _).1 hy
              obtain ⟨h6, h7⟩ := hZf _ h5
              rw [(hS.z _ h3).2 (.inr hx)] at h6; cases h6
            · intro a' q b hab j hj
              rw [getD_set hil]
              rcases List.append_eq_append_iff.1 hab with ⟨c, h1, h2⟩ | ⟨c, h1, h2⟩
              · -- a' = pend ++ c, ps = c ++ q :: b
                rcases hord c q b h2 j hj with h | h
                · rcases testBit_orBit.1 h with h | rfl
                  · rcases (hS.z j (hS.zlt j h)).1 h with h | h
                    · exact .inl (.inl h)
                    · exact .inr (by rw [h1]; simp only [List.map_append, List.mem_append]; exact .inl h)
                  · exact .inl (.inr rfl)
                · exact .inr (by rw [h1]; simp only [List.map_append, List.mem_append]; exact .inr h)
              · cases c with
                | nil =>
                  simp only [List.append_nil, List.nil_append] at h1 h2
                  rcases hord [] q b h2.symm j hj with h | h
                  · rcases testBit_orBit.1 h with h | rfl
                    · rcases (hS.z j (hS.zlt j h)).1 h with h | h
                      · exact .inl (.inl h)
                      · exact .inr (by rw [← h1]; exact h)
                    · exact .inl (.inr rfl)
                  · cases h
                | cons x c =>
                  simp only [List.cons_append, List.cons.injEq] at h2
                  obtain ⟨rfl, rfl⟩ := h2
                  rcases hS.order a' q c h1 j hj with h | h
                  · exact .inl (.inl h)
                  · exact .inr h
            · intro j hj hej hsj
              rw [hZ2]
              cases hzj : (Z ||| 1 <<< i).testBit j with
              | true => exact .inl rfl
              | false => exact .inr ((hflt j).2 ⟨hj, hej, hzj, hsj⟩)
            · intro q hq'
              rcases List.mem_append.1 hq' with h | h
              · exact List.mem_append.2 (.inl (keepO_mem (hS.isub q h) (hanc' q h)))
              · exact List.mem_append.2 (.inr h)
          · intro q hq' hst
            cases hvo : q.vo with
            | none => trivial
            | some vo =>
              rw [hvo] at hst
              cases hpv : pureV vo with
              | true => exact pure_world hpv hst
              | false =>
                have := hsa _ (opens_mem (hS.isub q hq') (hanc' q hq') (by rw [hvo]; exact hpv))
                simpa [hvo] using this

theorem drawE_sound {id : Nat} (hm : P.follows .mixedOrders = true) (hok : ops.toList.all (dstOk n) = true) (hdr : drawOk ops.toList = true) {a : Act} {e : Env} {w : World}
    (ha : Agree n a e) (h : drawE P ops e { w with drawn := w.drawn + 1 } k)
    (hk : ∀ a' e' w', Agree n a' e' → a'.defers = a.defers → (∀ t, (wrOps ops.toList).testBit t = false → e' t = e t) → k e' w' → Q .normal a' w') :
    (Code.region id ops true).wpIn (FR r) 0 P Q a w := by
  refine wpIn_region_any hm ?_
  have hA := drawOk_spec hdr
  have hE : ∀ j, (effM ops.toList 0).testBit j = true → j < ops.toList.length := fun j hj => by have := eff_lt _ _ _ hj; omega
  obtain ⟨Z2, e2, ps, hK, hPn, hmap, hnd2, hz2, hZ2, hord⟩ := evalF_spec _ _ _ _ h
  have hl0 : ∀ i, ¬ LL (Array.replicate ops.size false) i := fun i => by
    unfold LL; rw [Array.getD_eq_getD_getElem?, Array.getElem?_replicate]; split <;> simp
  have hflt : ∀ j, j ∈ floatsL ops.toList.length (ancL ops.toList []) (effM ops.toList 0) 0 0 ↔ j < ops.toList.length ∧ (effM ops.toList 0).testBit j = false ∧ sub ((ancL ops.toList []).getD j 0 &&& effM ops.toList 0) 0 = true := by
    intro j
    unfold floatsL
    rw [List.mem_filter, List.mem_range]
    simp only [Bool.and_eq_true, Bool.not_eq_true', Nat.zero_testBit, and_true]
  refine sim hA hE hok hk ops.size _ Z2 0 ps _ a e e2 _ _ ?_ ?_ hPn hK ha rfl (fun _ _ => rfl)
  · refine ⟨by simp, fun i hi => absurd hi (hl0 i), ?_, ?_, ?_, ?_, ?_, by rw [hmap]; exact hnd2, ?_, ?_, fun p hp => by simpa using hp⟩
    · intro i hi
      rw [hZ2, hmap]
      simp [hl0 i]
    · intro i hi
      simp [hl0 i]
    · intro i hi; simp at hi
    · intro i hi
      rcases (hZ2 i).1 hi with h | h
      · simp at h
      · exact ((hflt i).1 h).1
    · intro p hp
      have := (hflt p.i).1 (by rw [← hmap]; exact List.mem_map.2 ⟨p, hp, rfl⟩)
      exact ⟨this.1, hl0 _, this.2.1⟩
    · intro pre p post hpp j hj
      rcases hord pre p post hpp j hj with h | h
      · simp at h
      · exact .inr h
    · intro i hi hei hs
      exact (hZ2 i).2 (.inr ((hflt i).2 ⟨hi, hei, hs⟩))
  · refine Nat.le_trans (List.length_filter_le _ _) ?_
    simp
end
end Go.Rv
