/- Part of the proof that YteemoolcphhkbaaGreat holds whatever the input: a text of contracts, laws and steps; no condition. -/
import Derived.Test.YteemoolcphhkbaaGreatRvB
import Derived.RangeFuncRecord
set_option linter.all false
set_option autoImplicit false
namespace Go.Rv
/-! ### A range over a function -/
abbrev QM := Exit → Env → List Nat → World → Prop
def rfree : Code → Bool
  | .rangeFunc .. => false
  | .seq x y => rfree x && rfree y
  | .cond _ x y => rfree x && rfree y
  | .block _ c => rfree c
  | .loop c => rfree c
  | _ => true
def putL (e : Env) (xs : List Value) : List Tmp → Nat → Env
  | d :: ds, i => putL (upd e d (g xs i)) xs ds (i + 1)
  | [], _ => e
/-- How a round's body is left. -/
def jq (K : Option Code → World → Prop) : Exit → World → Prop
  | .normal, w => K none w
  | .ret, w => K (some .ret) w
  | .exit id, w => K (some (.exit id)) w
  | _, _ => False
abbrev Mid := World → (World → Prop) → Prop
def asgQ (mid : Mid) (body : Env → World → Prop) : QE
  | .normal, e, w => mid w fun w' => body e w'
  | _, _, _ => False
def rdOf (P : Program) (N : Nat) (ps : List Tmp) (asg body : Code) (e : Env) (xs : List Value) (mid : Mid) (K : Option Code → World → Prop) (w : World) : Prop :=
  sem P N asg (liveC body 0) (asgQ mid fun e1 w1 => sem P N body 0 (fun ex _ w2 => jq K ex w2) e1 w1) (putL e xs ps 0) w
abbrev Rd := List Value → Mid → (Option Code → World → Prop) → World → Prop
def busy (rc : Loop) : Obj := .loop { rc with state := .busy }
def after (rc : Loop) (j : Option Code) : Obj := .loop { rc with state := if j.isNone then .ready else .done, pending := j }
def over' (rc : Loop) : Obj := .loop { rc with state := .exhausted }
/-- What a call of yield comes to. -/
def Rounds (P : Program) (n : Nat) (rd : Rd) (rc : Loop) : Prop :=
  ∀ (l : Nat) (xs : List Value) (W : World) (k : KV), xs.length = n → W.heap[l]? = some (.loop rc) →
    rd xs (fun w1 k' => w1.heap[l]? = some (.loop rc) ∧ k' (w1.putObj l (busy rc))) (fun j w3 => w3.heap[l]? = some (busy rc) ∧ k (.bool j.isNone) (w3.putObj l (after rc j))) W →
    D P (.call (.func (.yield l) #[] #[]) xs) k W
def RF0 (P : Program) (gv : Value) (n : Nat) (w : World) (rd : Rd) (K : Option Code → Nat → World → Prop) : Prop :=
  ∃ (f : FuncId) (cap : Array Value) (fn : Func), gv = .func (.func f) #[] cap ∧ P.funcs[f]? = some fn ∧ fn.body.isSome = true ∧ fn.name ≠ "runtime.NumGoroutine" ∧
  ∀ (rc : Loop), rc.state = .ready → rc.pending = none → Rounds P n rd rc →
    Calls P f (#[.func (.yield (w.heap.size + 1)) #[] #[]] ++ cap) ((w.alloc (.deferred (some []))).alloc (.loop rc))
      (Ret fun _ w3 => ∃ rc' : Loop, w3.heap[w.heap.size + 1]? = some (.loop rc') ∧ rc'.state ≠ .busy ∧ K rc'.pending w.heap.size (w3.putObj (w.heap.size + 1) (over' rc')))
structure RF (P : Program) (gv : Value) (n : Nat) (w : World) (rd : Rd) (K : Option Code → Nat → World → Prop) : Prop where
  out : RF0 P gv n w rd K
def JK0 (j : Option Code) (qn qr : Prop) (qe : Nat → Prop) : Prop :=
  match j with
  | none => qn
  | some .ret => qr
  | some (.exit id) => qe id
  | _ => False
structure JK (j : Option Code) (qn qr : Prop) (qe : Nat → Prop) : Prop where
  out : JK0 j qn qr qe
/-- The mark of a loop over a function is come to, where the function is left. -/
structure Mk (d : Nat) (w : World) (k : World → Prop) : Prop where
  out : w.heap[d]? = some (.deferred (some [])) ∧ k (w.putObj d (.deferred none))
def marksE : List Nat → World → (World → Prop) → Prop
  | [], w, k => k w
  | d :: M, w, k => Mk d w fun w' => marksE M w' k

def thenM (next : Env → List Nat → World → Prop) (Q : QM) : QM
  | .normal, e, M, w => next e M w
  | ex, e, M, w => Q ex e M w
def blockM (id : Nat) (Q : QM) : QM
  | .exit id', e, M, w => cond (Nat.beq id' id) (Q .normal e M w) (Q (.exit id') e M w)
  | ex, e, M, w => Q ex e M w
def liveR : Code → Nat → Nat
  | .rangeFunc gv _ asg body, L => tmpB gv ||| (liveC asg (liveC body 0) ||| L)
  | .seq x y, L => cond (rfree x && rfree y) (liveC (.seq x y) L) (liveR x (liveR y L ||| L))
  | .block _ c, L => liveR c L
  | .cond c x y, L => tmpB c ||| (liveR x L ||| liveR y L)
  | c, L => liveC c L
def semR (P : Program) (N : Nat) : Code → Nat → QM → Env → List Nat → World → Prop
  | .seq x y, L, Q => fun e M w =>
    cond (rfree x && rfree y) (sem P N (.seq x y) L (fun ex e' w' => Q ex e' M w') e w)
      (semR P N x (liveR y L ||| L) (thenM (semR P N y L Q) Q) e M w)
  | .block id c, L, Q => fun e M w => semR P N c L (blockM id Q) e M w
  | .cond c x y, L, Q => fun e M w => Cnd (evE e c) (semR P N x L Q e M w) (semR P N y L Q e M w)
  | .rangeFunc gv ps asg body, _, Q => fun e M w =>
    RF P (evE e gv) ps.toList.length w (rdOf P N ps.toList asg body e) fun j d w' =>
      JK j (Q .normal e (d :: M) w') (Q .ret e (d :: M) w') (fun id => Q (.exit id) e (d :: M) w')
  | c, L, Q => fun e M w => sem P N c L (fun ex e' w' => Q ex e' M w') e w
def okR (n : Nat) : Code → Bool
  | .seq x y => cond (rfree x && rfree y) (okC n (.seq x y)) (okR n x && okR n y)
  | .block _ c => okR n c
  | .cond _ x y => okR n x && okR n y
  | .rangeFunc _ ps asg body => okC n asg && okC n body && ps.toList.all (fun d => Nat.blt d n)
  | c => okC n c

section
variable {P : Program} {N : Nat}
theorem putL_eqv {L : Nat} {xs : List Value} : ∀ (ps : List Tmp) {i : Nat} {e e' : Env}, Eqv L e e' → Eqv L (putL e xs ps i) (putL e' xs ps i)
  | [], _, _, _, h => h
  | d :: ds, i, e, e', h => putL_eqv ds (h.putE (some d) (g xs i))
theorem g_drop {v : Value} {vs : List Value} : ∀ (xs : List Value) (i : Nat), xs.drop i = v :: vs → g xs i = v ∧ xs.drop (i + 1) = vs := by
  intro xs
  induction xs with
  | nil => intro i h; simp at h
  | cons x xs ih =>
    intro i h
    cases i with
    | zero => simp only [List.drop_zero, List.cons.injEq] at h; exact ⟨h.1, h.2⟩
    | succ i => simp only [List.drop_succ_cons] at h; exact ih i h
theorem putL_agree {xs : List Value} : ∀ (ps : List Tmp) (ys : List Value) {i : Nat} {tm : Array Value} {e : Env}, xs.drop i = ys → ys.length = ps.length → ps.all (fun d => Nat.blt d N) = true → Agree N { tmps := tm, defers := [] } e →
    Agree N { tmps := (ps.zip ys).foldl (fun tm p => tm.setIfInBounds p.1 p.2) tm, defers := [] } (putL e xs ps i)
  | [], ys, _, _, _, _, _, _, h => by cases ys <;> exact h
  | _ :: _, [], _, _, _, _, hl, _, h => by simp at hl
  | d :: ds, v :: vs, i, tm, e, hy, hl, hp, h => by
    simp only [List.all_cons, Bool.and_eq_true] at hp
    simp only [List.zip_cons_cons, List.foldl_cons, putL]
    obtain ⟨h1, h2⟩ := g_drop _ _ hy
    rw [h1]
    refine putL_agree ds vs h2 (by simpa using hl) hp.2 ?_
    exact h.put (dst := some d) (fun d' hd' => by cases hd'; simpa [Nat.blt_eq] using hp.1) v
theorem rdOf_dep {ps : List Tmp} {asg body : Code} {e e' : Env} (ha : okC N asg = true) (hb : okC N body = true) (he : Eqv (liveC asg (liveC body 0)) e e')
    {xs : List Value} {mid : Mid} {K : Option Code → World → Prop} {w : World} (hmid : ∀ w k k', (∀ w, k w → k' w) → mid w k → mid w k') (h : rdOf P N ps asg body e xs mid K w) : rdOf P N ps asg body e' xs mid K w := by
  refine sem_dep asg _ _ ?_ ha _ _ _ (putL_eqv ps he) h
  intro ex a b w' hab hh
  cases ex with
  | normal =>
    refine hmid _ _ _ (fun w1 h1 => ?_) hh
    refine sem_dep body 0 _ ?_ hb _ _ _ hab h1
    intro ex a b w' _ hh; exact hh
  | _ => exact hh.elim
def DepM (L : Nat) (Q : QM) : Prop := ∀ ex e e' M w, Eqv L e e' → Q ex e M w → Q ex e' M w
theorem DepM.at {L : Nat} {Q : QM} (h : DepM L Q) (M : List Nat) : DepQ L fun ex e w => Q ex e M w := fun ex e e' w he hq => h ex e e' M w he hq
theorem rounds_dep {n : Nat} {rd rd' : Rd} {rc : Loop} (h : ∀ xs mid K w, (∀ w k k', (∀ w, k w → k' w) → mid w k → mid w k') → rd xs mid K w → rd' xs mid K w) (H : Rounds P n rd' rc) : Rounds P n rd rc :=
  fun l xs W k hn hl hr => H l xs W k hn hl (h _ _ _ _ (fun w k k' hk hh => ⟨hh.1, hk _ hh.2⟩) hr)
theorem semR_dep : ∀ (c : Code) (L : Nat) (Q : QM), DepM L Q → okR N c = true → ∀ (e e' : Env) (M : List Nat) (w : World), Eqv (liveR c L) e e' → semR P N c L Q e M w → semR P N c L Q e' M w := by
  intro c
  induction c with
  | seq x y ihx ihy =>
    intro L Q hQ hok e e' M w he h
    simp only [semR, liveR, okR] at *
    cases hc : (rfree x && rfree y) with
    | true => rw [hc] at h he hok; exact sem_dep _ L _ (hQ.at M) hok _ _ _ he h
    | false =>
      rw [hc] at h he hok
      simp only [cond_false, Bool.and_eq_true] at h he hok ⊢
      refine ihx _ _ ?_ hok.1 _ _ _ _ he h
      intro ex a b M' w' hab hh
      cases ex with
      | normal => exact ihy _ _ hQ hok.2 _ _ _ _ hab.left hh
      | _ => exact hQ _ _ _ _ _ hab.right hh
  | cond c x y ihx ihy =>
    intro L Q hQ hok e e' M w he h
    simp only [okR, Bool.and_eq_true] at hok
    simp only [semR, liveR] at *
    have hc : evE e c = evE e' c := evE_eqv he
    rw [← hc]
    refine ⟨?_⟩
    replace h := h.out
    unfold Cnd0 at *
    split at h
    · rename_i b hb
      cases b with
      | true => exact ihx _ _ hQ hok.1 _ _ _ _ he.right.left h
      | false => exact ihy _ _ hQ hok.2 _ _ _ _ he.right.right h
    · exact h.elim
  | block id c ih =>
    intro L Q hQ hok e e' M w he h
    refine ih _ _ ?_ hok _ _ _ _ he h
    intro ex a b M' w' hab hh
    cases ex with
    | exit id' =>
      simp only [blockM] at *
      cases hb : Nat.beq id' id with
      | true => rw [hb] at hh; exact hQ _ _ _ _ _ hab hh
      | false => rw [hb] at hh; exact hQ _ _ _ _ _ hab hh
    | _ => exact hQ _ _ _ _ _ hab hh
  | rangeFunc gv ps asg body _ _ =>
    intro L Q hQ hok e e' M w he h
    simp only [okR, Bool.and_eq_true] at hok
    simp only [semR, liveR] at *
    have hc : evE e gv = evE e' gv := evE_eqv he
    rw [← hc]
    refine ⟨?_⟩
    obtain ⟨f, cap, fn, h1, h2, h3, h4, h5⟩ := h.out
    refine ⟨f, cap, fn, h1, h2, h3, h4, fun rc r1 r2 hr => ?_⟩
    refine Calls.mono (h5 rc r1 r2 (rounds_dep (fun xs mid K w hm hh => rdOf_dep hok.1.1 hok.1.2 he.right.left hm hh) hr)) fun en w3 hh => ?_
    cases en with
    | returned v =>
      obtain ⟨rc', g1, g2, g3⟩ := hh
      refine ⟨rc', g1, g2, ⟨?_⟩⟩
      replace g3 := g3.out
      have heL := he.right.right
      unfold JK0 at *
      split at g3 <;> first | exact hQ _ _ _ _ _ heL g3 | exact g3
    | panicked c => exact hh.elim
    | outgrown => exact hh.elim
  | _ =>
    intro L Q hQ hok e e' M w he h
    first | exact sem_dep (P := P) _ L _ (hQ.at M) hok e e' w he h | exact h.elim

def mark (d : Nat) : Deferred := { target := .collected d, args := #[] }
def LiftM (N : Nat) (M0 : List Nat) (e : Env) (W : Nat) (Q : QM) : Exit → Act → World → Prop :=
  fun ex a' w' => ∃ M e', a'.defers = M.map mark ∧ Agree N a' e' ∧ Q ex e' M w'

theorem rd_sound (hm : P.follows .mixedOrders = true) {ps : Array Tmp} {asg body : Code} {e : Env} {fn : FuncId} {tm : Array Value} {d : Nat} (ha : Agree N { tmps := tm, defers := [] } e) (hp : ps.toList.all (fun d => Nat.blt d N) = true)
    (hka : okC N asg = true) (hkb : okC N body = true) :
    Rounds P ps.toList.length (rdOf P N ps.toList asg body e) { state := .ready, pending := none, fn, tmps := tm, params := ps, assign := asg, body, defers := d } := by
  intro l xs W k hn hl hrd
  have hy := run_yield (P := P) (args := xs.toArray) hl (by simpa using hn)
  refine ⟨?_⟩
  unfold D0
  have hr : (VOp.sem (.call (.func (.yield l) #[] #[]) xs)).run P W = .ok (.round l fn ((ps.zip xs.toArray).foldl (fun tmps (x : Tmp × Value) => tmps.setIfInBounds x.1 x.2) tm) asg body) W := by
    simp only [VOp.sem, Deferred.ofValue, pure_bind, invoke]
    have : (#[] : Array Value) ++ xs.toArray = xs.toArray := by simp
    rw [this]
    exact hy
  rw [hr]
  simp only
  have hfold : (ps.zip xs.toArray).foldl (fun tmps (x : Tmp × Value) => tmps.setIfInBounds x.1 x.2) tm = (ps.toList.zip xs).foldl (fun tm p => tm.setIfInBounds p.1 p.2) tm := by
    rw [← Array.foldl_toList]; simp
  rw [hfold]
  have hag := putL_agree (xs := xs) ps.toList xs (i := 0) rfl hn hp ha
  refine roundIn_of_wpIn trivial ?_
  have hasg := sem_sound (r := some l) hm asg _ _ (by
    intro ex a b w' hab hh
    cases ex with
    | normal =>
      refine ⟨hh.1, ?_⟩
      refine sem_dep body 0 _ ?_ hkb _ _ _ hab hh.2
      intro ex a b w' _ hh; exact hh
    | _ => exact hh.elim) hka _ _ _ hag hrd
  refine wpIn_mono hasg fun ex a1 w1 h1 => ?_
  obtain ⟨h2, e1, h3, _, h4⟩ := h1
  cases ex with
  | normal =>
    obtain ⟨h5, h6⟩ := h4
    refine ⟨_, run_beginRound h5 rfl, ?_⟩
    refine wpIn_mono (sem_sound (r := some l) hm body 0 _ (fun _ _ _ _ _ h => h) hkb _ _ _ h3 h6) fun ex2 a2 w2 h7 => ?_
    obtain ⟨_, _, _, _, h8⟩ := h7
    cases ex2 <;> first | exact h8.elim | exact ⟨_, _, run_endRound _ h8.1, h8.2⟩
  | _ => exact h4.elim

theorem semR_sound (hm : P.follows .mixedOrders = true) : ∀ (c : Code) (L : Nat) (Q : QM), DepM L Q → okR N c = true → ∀ (a : Act) (e : Env) (M : List Nat) (w : World), Agree N a e → a.defers = M.map mark → semR P N c L Q e M w →
    c.wpIn (FR none) 0 P (fun ex a' w' => ∃ M' e', a'.defers = M'.map mark ∧ Agree N a' e' ∧ Q ex e' M' w') a w := by
  have plain : ∀ (c : Code) (L : Nat) (Q : QM), DepM L Q → okC N c = true → ∀ (a : Act) (e : Env) (M : List Nat) (w : World), Agree N a e → a.defers = M.map mark → sem P N c L (fun ex e' w' => Q ex e' M w') e w →
      c.wpIn (FR none) 0 P (fun ex a' w' => ∃ M' e', a'.defers = M'.map mark ∧ Agree N a' e' ∧ Q ex e' M' w') a w := by
    intro c L Q hQ hok a e M w ha hd h
    refine wpIn_mono (sem_sound (r := none) hm c L _ (hQ.at M) hok a e w ha h) fun ex a' w' h2 => ?_
    obtain ⟨h3, e', h4, _, h5⟩ := h2
    exact ⟨M, e', h3.trans hd, h4, h5⟩
  intro c
  induction c with
  | seq x y ihx ihy =>
    intro L Q hQ hok a e M w ha hd h
    simp only [semR, okR] at h hok
    cases hc : (rfree x && rfree y) with
    | true => rw [hc] at h hok; exact plain _ L Q hQ hok a e M w ha hd h
    | false =>
      rw [hc] at h hok
      simp only [cond_false, Bool.and_eq_true] at h hok
      refine wpIn_seq ?_
      have hdep : DepM (liveR y L ||| L) (thenM (semR P N y L Q) Q) := by
        intro ex u v M' w' hab hh
        cases ex with
        | normal => exact semR_dep y L Q hQ hok.2 _ _ _ _ hab.left hh
        | _ => exact hQ _ _ _ _ _ hab.right hh
      refine wpIn_mono (ihx _ _ hdep hok.1 a e M w ha hd h) fun ex a' w' h2 => ?_
      obtain ⟨M', e', h3, h4, h5⟩ := h2
      cases ex with
      | normal => exact ihy _ _ hQ hok.2 a' e' M' w' h4 h3 h5
      | _ => exact ⟨M', e', h3, h4, h5⟩
  | cond c x y ihx ihy =>
    intro L Q hQ hok a e M w ha hd h
    simp only [okR, Bool.and_eq_true] at hok
    simp only [semR] at h
    replace h := h.out
    unfold Cnd0 at h
    split at h
    · rename_i b hb
      have hev : a.eval c = .bool b := by rw [ha.eval]; exact hb
      refine wpIn_cond hev ?_
      cases b with
      | true => exact ihx _ _ hQ hok.1 a e M w ha hd h
      | false => exact ihy _ _ hQ hok.2 a e M w ha hd h
    · exact h.elim
  | block id c ih =>
    intro L Q hQ hok a e M w ha hd h
    refine wpIn_block ?_
    have hdep : DepM L (blockM id Q) := by
      intro ex u v M' w' hab hh
      cases ex with
      | exit id' =>
        simp only [blockM] at *
        cases hb : Nat.beq id' id with
        | true => rw [hb] at hh; exact hQ _ _ _ _ _ hab hh
        | false => rw [hb] at hh; exact hQ _ _ _ _ _ hab hh
      | _ => exact hQ _ _ _ _ _ hab hh
    refine wpIn_mono (ih _ _ hdep hok a e M w ha hd h) fun ex a' w' h2 => ?_
    obtain ⟨M', e', h3, h4, h6⟩ := h2
    cases ex with
    | exit id' =>
      simp only [Exit.inBlock]
      simp only [blockM] at h6
      by_cases hid : id' = id
      · rw [if_pos hid]; rw [nbeq.2 hid] at h6; exact ⟨M', e', h3, h4, h6⟩
      · rw [if_neg hid]
        cases hb : Nat.beq id' id with
        | true => exact absurd (nbeq.1 hb) hid
        | false => rw [hb] at h6; exact ⟨M', e', h3, h4, h6⟩
    | _ => exact ⟨M', e', h3, h4, h6⟩
  | rangeFunc gv ps asg body _ _ =>
    intro L Q hQ hok a e M w ha hd h
    simp only [okR, Bool.and_eq_true] at hok
    simp only [semR] at h
    obtain ⟨f, cap, fn, h1, h2, h3, h4, h5⟩ := h.out
    have hev : a.eval gv = .func (.func f) #[] cap := by rw [ha.eval]; exact h1
    refine wpIn_rangeFunc fun fid _ => ?_
    have ha0 : Agree N { tmps := a.tmps, defers := [] } e := ⟨ha.size, ha.look⟩
    have hcalls := h5 { state := .ready, pending := none, fn := fid, tmps := a.tmps, params := ps, assign := asg, body, defers := w.heap.size } rfl rfl (rd_sound hm ha0 hok.2 hok.1.1 hok.1.2)
    refine ⟨_, _, _, { target := .fn (.func f) cap, args := #[.func (.yield (w.heap.size + 1)) #[] #[]] }, (w.alloc (.deferred (some []))).alloc (.loop { state := .ready, pending := none, fn := fid, tmps := a.tmps, params := ps, assign := asg, body, defers := w.heap.size }), f, (#[.func (.yield (w.heap.size + 1)) #[] #[]] ++ cap), (w.alloc (.deferred (some []))).alloc (.loop { state := .ready, pending := none, fn := fid, tmps := a.tmps, params := ps, assign := asg, body, defers := w.heap.size }), run_enterLoop_outer fid a.tmps ps asg body, ?_, fun _ _ => trivial, ?_, fun hh => (by cases hh), ?_⟩
    · simp only [resolve, rangeCall]
      rw [hev]
      simp [Deferred.ofValue, Act.eval]
    · simp only [invoke, callFunc]
      simp [Sem.run_bind, program, h2, h4, Sem.run]
      intro hh; rw [hh] at h3; simp at h3
    · refine callsIn_FR (Calls.mono hcalls fun en w3 hh => ?_)
      cases en with
      | returned v =>
        obtain ⟨rc', g1, g2, g3⟩ := hh
        have g4 := run_endLoop (P := P) g1 g2
        replace g3 := g3.out
        change JK0 _ _ _ _ at g3
        have e4 : over' rc' = .loop { rc' with state := .exhausted } := rfl
        rw [← e4] at g4
        generalize w3.putObj (w.heap.size + 1) (over' rc') = W4 at g3 g4
        refine ⟨rc'.pending, W4, g4, ?_⟩
        clear g4
        generalize rc'.pending = j at g3
        have hag : Agree N { a with defers := [mark w.heap.size] ++ a.defers } e := ⟨ha.size, ha.look⟩
        unfold JK0 at g3
        have hde : ([mark w.heap.size] ++ a.defers) = (w.heap.size :: M).map mark := by rw [hd]; rfl
        split at g3
        · exact ⟨_, e, hde, hag, g3⟩
        · exact wpIn_ret ⟨_, e, hde, hag, g3⟩
        · exact wpIn_exit ⟨_, e, hde, hag, g3⟩
        · exact g3.elim
      | panicked c => exact hh.elim
      | outgrown => exact hh.elim
  | _ => intro L Q hQ hok a e M w ha hd h; exact plain _ L Q hQ hok a e M w ha hd h

def topM (P : Program) (rs : List ResultVar) (R : KV) : QM
  | .normal, e, M, w => marksE M w fun w' => resE P R rs [] e w'
  | .ret, e, M, w => marksE M w fun w' => resE P R rs [] e w'
  | _, _, _, _ => False
def semFR (P : Program) (f : Func) (c : Code) (args : List Value) (R : KV) (w : World) : Prop :=
  semR P f.ntmps c (resB f.results.toList) (topM P f.results.toList R) (g args) [] w

theorem marks_dep {k k' : World → Prop} (h : ∀ w, k w → k' w) : ∀ {M : List Nat} {w : World}, marksE M w k → marksE M w k'
  | [], w, hh => h w hh
  | d :: M, w, hh => ⟨hh.out.1, marks_dep h hh.out.2⟩
theorem leaves_marks {fn : Func} {tm : Array Value} {R : Ending → World → Prop} {k : World → Prop} (hk : ∀ w, k w → LeavesIn (FR none) 0 P fn tm R [] .returning w) :
    ∀ {M : List Nat} {w : World}, marksE M w k → LeavesInM (FR none) 0 P fn tm R (M.map mark) .returning w
  | [], w, h => hk w h
  | d :: M, w, h => ⟨by simp, .inl ⟨d, _, rfl, run_takeDeferred h.out.1, leaves_marks hk h.out.2⟩⟩

/-- THE LINK, where the body holds a range over a function. -/
theorem calls_of_semFR {i : FuncId} {f : Func} {c : Code} {args : List Value} {R : KV} {w : World} (hm : P.follows .mixedOrders = true) (hf : P.funcs[i]? = some f) (hb : f.body = some c)
    (hok : okR f.ntmps c = true) (hlen : Nat.ble args.length f.ntmps = true) (h : semFR P f c args R w) : Calls P i args.toArray w (Ret R) := by
  refine calls_FR (n := 0) (callsIn_of_wp_marks hf hb trivial ?_)
  have hlen' : args.length ≤ f.ntmps := Nat.le_of_ble_eq_true hlen
  have ha : Agree f.ntmps { tmps := args.toArray ++ Array.replicate (f.ntmps - args.toArray.size) undef, defers := [] } (g args) := by
    refine ⟨by simp; omega, fun t => ?_⟩
    rw [g_getD]
    simp only [Array.getD_eq_getD_getElem?, Array.getElem?_append, List.getD_eq_getElem?_getD]
    by_cases ht : t < args.length
    · simp [ht]
    · simp only [List.size_toArray, if_neg ht, Array.getElem?_replicate]
      rw [List.getElem?_eq_none (by omega)]
      split <;> rfl
  have hQ : DepM (resB f.results.toList) (topM P f.results.toList R) := by
    intro ex e e' M w he h
    cases ex <;> first | exact marks_dep (fun w hh => resE_dep _ _ _ _ he hh) h | exact h
  refine wpIn_mono (semR_sound hm c _ _ hQ hok _ _ [] w ha rfl h) fun ex a' w' h2 => ?_
  obtain ⟨M, e', h3, h4, h6⟩ := h2
  have fin : ∀ w'', resE P R f.results.toList [] e' w'' → LeavesIn (FR none) 0 P f a'.tmps (Ret R) [] .returning w'' := fun w'' hh => by
    obtain ⟨vs, h7, h8⟩ := resE_run h4.look _ _ hh
    exact ⟨finV vs, by rw [results_eq, Sem.run_bind, h7]; simp [Result.andThen, pure, Sem.run], h8⟩
  cases ex with
  | normal => show LeavesInM _ _ _ _ _ _ a'.defers _ _; rw [h3]; exact leaves_marks fin h6
  | ret => show LeavesInM _ _ _ _ _ _ a'.defers _ _; rw [h3]; exact leaves_marks fin h6
  | _ => exact h6.elim
end
end Go.Rv
