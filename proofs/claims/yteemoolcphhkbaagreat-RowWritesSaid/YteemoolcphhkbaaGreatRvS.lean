/- Part of the proof that YteemoolcphhkbaaGreat holds whatever the input: a text of contracts, laws and steps; no condition. -/
import Derived.Test.YteemoolcphhkbaaGreatRvP
import Derived.Test.YteemoolcphhkbaaGreatRvR
set_option linter.all false
set_option autoImplicit false
namespace Go.Rv
open Go.RowKit
/-! ### Loops with a measure on a ghost; calls that make resources; iterators -/
theorem least {p : Nat → Prop} (h : ∃ n, p n) : ∃ n, p n ∧ ∀ m, p m → n ≤ m := by
  obtain ⟨n, hn⟩ := h
  induction n using Nat.strongRecOn with
  | _ n ih =>
    by_cases hx : ∃ m, m < n ∧ p m
    · obtain ⟨m, hm, hp⟩ := hx; exact ih m hm hp
    · exact ⟨n, hn, fun m hm => Nat.le_of_not_lt fun h => hx ⟨m, h, hm⟩⟩
theorem Lp_m {σ : Type} {init : List Value} {w : World} {B : (List Value → World → Prop) → List Value → World → Prop} (X : σ → List Value → World → Prop) (m : σ → Nat) (s0 : σ) (h0 : X s0 init w)
    (hs : ∀ s vs w k, X s vs w → (∀ s' vs' w', m s' < m s → X s' vs' w' → k vs' w') → B k vs w) : Lp init w B := by
  let q : List Value → World → Nat → Prop := fun vs w n => ∃ s, m s = n ∧ X s vs w
  have hex : ∀ vs w, (∃ s, X s vs w) → ∃ n, q vs w n := fun vs w ⟨s, h⟩ => ⟨_, s, rfl, h⟩
  let μ : List Value → World → Nat := fun vs w => @dite _ (∃ s, X s vs w) (Classical.propDecidable _) (fun h => Classical.choose (least (hex vs w h))) fun _ => 0
  have hμ : ∀ vs w (h : ∃ s, X s vs w), q vs w (μ vs w) ∧ ∀ n, q vs w n → μ vs w ≤ n := by
    intro vs w h
    have : μ vs w = Classical.choose (least (hex vs w h)) := by simp only [μ]; rw [dif_pos h]
    rw [this]
    exact Classical.choose_spec (least (hex vs w h))
  refine ⟨fun vs w => ∃ s, X s vs w, μ, ⟨s0, h0⟩, fun vs w h => ?_⟩
  obtain ⟨⟨s, h1, h2⟩, _⟩ := hμ vs w h
  refine hs s vs w _ h2 fun s' vs' w' hlt hx => ⟨⟨s', hx⟩, ?_⟩
  have := (hμ vs' w' ⟨s', hx⟩).2 _ ⟨s', rfl, hx⟩
  omega
/-- Counting up. -/
theorem Lp_i {init : List Value} {w : World} {B : (List Value → World → Prop) → List Value → World → Prop} (n : Nat) (X : Nat → List Value → World → Prop) (h0 : X 0 init w)
    (hs : ∀ i vs w k, i ≤ n → X i vs w → (∀ vs' w', i + 1 ≤ n → X (i + 1) vs' w' → k vs' w') → B k vs w) : Lp init w B :=
  Lp_m (σ := Nat) (fun i vs w => i ≤ n ∧ X i vs w) (fun i => n - i) 0 ⟨Nat.zero_le _, h0⟩ fun i vs w k ⟨h1, h2⟩ hk => hs i vs w k h1 h2 fun vs' w' h3 h4 => hk (i + 1) vs' w' (by omega) ⟨h3, h4⟩
section
variable {P : Program} {J : World → Prop} {U : Nat → Prop} {w w0 : World} {l : List Rs} {k : KV}
theorem Cur.aside' (hJ : Jst J U) {l' : List Rs} (H : Cur J U w (l ++ l')) :
    ∃ J' U', Jst J' U' ∧ (∀ w, J' w → J w) ∧ Cur J' U' w l ∧ ∀ w' l'', Cur J' U' w' l'' → Cur J U w' (l'' ++ l') := by
  have hp := List.pairwise_append.1 H.ap
  refine ⟨fun w => J w ∧ ∀ r ∈ l', r.ok w, fun b => U b ∧ ∀ r ∈ l', ¬ r.foot b, ⟨?_, ?_⟩, fun _ h => h.1, ⟨⟨H.j, fun r hr => H.ok r (List.mem_append.2 (.inr hr))⟩, fun r hr => H.ok r (List.mem_append.2 (.inl hr)), fun r hr b hb => ⟨H.own r (List.mem_append.2 (.inl hr)) b hb, fun s hs => hp.2.2 r hr s hs b hb⟩, hp.1⟩, ?_⟩
  · intro w w' row ⟨hj, hr⟩ hg hrow
    exact ⟨hJ.keep w w' row hj hg fun b hb => (hrow b hb).1, fun r h => Rs.ok_keep (hr r h) hg fun b hb e => (hrow b e).2 r h hb⟩
  · intro w b ⟨hj, hr⟩ hb
    exact ⟨hJ.new w b hj hb, fun r h hf => by have := r.lt (hr r h) b hf; omega⟩
  · intro w' l'' H'
    refine ⟨H'.j.1, fun r hr => ?_, fun r hr b hb => ?_, List.pairwise_append.2 ⟨H'.ap, hp.2.1, fun r hr s hs b hb => (H'.own r hr b hb).2 s hs⟩⟩
    · rcases List.mem_append.1 hr with h | h
      · exact H'.ok r h
      · exact H'.j.2 r h
    · rcases List.mem_append.1 hr with h | h
      · exact (H'.own r h b hb).1
      · exact H.own r (List.mem_append.2 (.inr h)) b hb
/-- What a call comes to that only makes memory, of which some is the caller's. -/
def MakesC (P : Program) (f : FuncId) (args : List Value) (cap : List Value) (w0 : World) (Q : Value → List Rs → Prop) : Prop :=
  Calls P f (args.toArray ++ cap.toArray) w0 (Ret fun v w' => ∃ ls', Q v ls' ∧ Cur (Below w0.heap.size w0) (w0.heap.size ≤ ·) w' ls')
theorem D_makes (hJ : Jst J U) (H : Cur J U w l) {f : FuncId} {args cap : List Value} {Q : Value → List Rs → Prop} [hf : Fo P f] (hc : MakesC P f args cap w Q)
    (hk : ∀ v w' ls', Q v ls' → Below w.heap.size w w' → Cur J U w' (l ++ ls') → k v w') : D P (.call (.func (.func f) #[] cap.toArray) args) k w := by
  refine D_calls (Calls.mono hc fun e w' h => ?_)
  cases e with
  | returned v =>
    obtain ⟨ls', hq, H'⟩ := h
    have H1 := H.step hJ (grown_of_below H'.j)
    refine hk v w' ls' hq H'.j ⟨H1.j, fun r hr => ?_, fun r hr b hb => ?_, List.pairwise_append.2 ⟨H.ap, H'.ap, fun r hr s hs b hb hb' => ?_⟩⟩
    · rcases List.mem_append.1 hr with h | h
      · exact H1.ok r h
      · exact H'.ok r h
    · rcases List.mem_append.1 hr with h | h
      · exact H1.own r h b hb
      · exact hJ.new w b H.j (H'.own r h b hb)
    · have h1 := H'.own s hs b hb'
      have h2 := r.lt (H.ok r hr) b hb
      omega
  | panicked c => exact h.elim
  | outgrown => exact h.elim
theorem MakesC.mono {f : FuncId} {args cap : List Value} {Q Q' : Value → List Rs → Prop} (h : MakesC P f args cap w Q) (hq : ∀ v ls, Q v ls → Q' v ls) : MakesC P f args cap w Q' := by
  refine Calls.mono h fun e w' h => ?_
  cases e with
  | returned v => obtain ⟨ls', h1, h2⟩ := h; exact ⟨ls', hq _ _ h1, h2⟩
  | panicked c => exact h.elim
  | outgrown => exact h.elim
theorem MakesC.turns {f : FuncId} {args cap : List Value} {Q : Value → List Rs → Prop} (h : MakesC P f args cap w Q) : TurnsC P f args cap w [] Q := by
  intro J U hJ H
  refine Calls.mono h fun e w' h => ?_
  cases e with
  | returned v =>
    obtain ⟨ls', h1, h2⟩ := h
    have H1 := H.step hJ (grown_of_below h2.j)
    exact ⟨ls', h1, H1.j, h2.ok, fun r hr b hb => hJ.new w b H.j (h2.own r hr b hb), h2.ap⟩
  | panicked c => exact h.elim
  | outgrown => exact h.elim

/-! A function value that is called: by its contract -/
def YieldV (P : Program) (J : World → Prop) (y : Value) (args : List Value) (ls : List Rs) (Q : Value → List Rs → Prop) : Prop :=
  ∀ (J' : World → Prop) (U' : Nat → Prop) (w : World) (k : KV), Jst J' U' → (∀ w, J' w → J w) → Cur J' U' w ls → (∀ v w' ls', Q v ls' → Cur J' U' w' ls' → k v w') → D P (.call y args) k w
theorem D_yield (hJ : Jst J U) {ls l' : List Rs} (H : Cur J U w (ls ++ l')) {J0 : World → Prop} {y : Value} {args : List Value} {Q : Value → List Rs → Prop} (hy : YieldV P J0 y args ls Q) (hJJ : ∀ w, J w → J0 w)
    (hk : ∀ v w' ls', Q v ls' → Cur J U w' (ls' ++ l') → k v w') : D P (.call y args) k w := by
  obtain ⟨J', U', h1, h2, h3, h4⟩ := H.aside' hJ
  exact hy J' U' w k h1 (fun w h => hJJ w (h2 w h)) h3 fun v w' ls' hq H' => hk v w' ls' hq (h4 w' ls' H')

/-- An iterator: what it hands to yield, and what it comes to. -/
def IterC {σ : Type} (P : Program) (f : FuncId) (cap : List Value) (Kx : World → Prop) (own : List Rs) (next : σ → List Value → σ → Prop) (fin : σ → Prop) (s0 : σ) (sz : σ → Nat) : Prop :=
  ∀ (J : World → Prop) (U : Nat → Prop) (w : World) (y : Value) (ls : List Rs) (I : σ → List Rs → Prop) (F : List Rs → Prop) (N : Nat), Jst J U → (∀ w, J w → Kx w) → (∀ s ls, I s ls → sz s ≤ N) → Cur J U w (own ++ ls) → I s0 ls →
    (∀ s x s' ls, next s x s' → I s ls → YieldV P J y x ls fun v ls' => (v = .bool true ∧ I s' ls') ∨ (v = .bool false ∧ F ls')) →
    Calls P f (#[y] ++ cap.toArray) w (Ret fun _ w' => ∃ ls', ((∃ s, fin s ∧ I s ls') ∨ F ls') ∧ Cur J U w' (own ++ ls'))

theorem grown_putObj (w : World) (r : Nat) (o : Obj) : w.grownBy (w.putObj r o) (some r) :=
  ⟨rfl, rfl, rfl, by simp, fun k _ hne => World.putObj_heap_other (fun e => hne (by rw [e]))⟩
theorem turn_obj (hJ : Jst J U) (H : Cur J U w l) {i b : Nat} {o : Obj} (o' : Obj) (hi : l[i]? = some (.b b o)) : Cur J U (w.putObj b o') (l.set i (.b b o')) := by
  have hb := H.blk hi
  refine H.turn hJ hi (grown_putObj w b o') (fun b' h => by rw [b_foot]; exact (Option.some.inj h).symm) ?_ fun b' h => .inl (by rw [b_foot] at *; exact h)
  rw [b_ok]
  exact World.putObj_heap_same (Array.getElem?_eq_some_iff.1 hb).1
theorem last_at {ls : List Rs} {r : Rs} : (ls ++ [r])[ls.length]? = some r := by simp
theorem last_set {ls : List Rs} {r r' : Rs} : (ls ++ [r]).set ls.length r' = ls ++ [r'] := by simp
theorem Loop.same {rc : Loop} (r1 : rc.state = .ready) (r2 : rc.pending = none) : after rc none = .loop rc := by
  cases rc; simp only at r1 r2; subst r1; subst r2; rfl
theorem mid_list {own ls1 tl : List Rs} {r : Rs} : (own ++ (ls1 ++ [r])) ++ tl = (own ++ ls1) ++ r :: tl := by simp
theorem mid_at {a tl : List Rs} {r : Rs} : (a ++ r :: tl)[a.length]? = some r := by simp
theorem mid_set {a tl : List Rs} {r r' : Rs} : (a ++ r :: tl).set a.length r' = a ++ r' :: tl := by simp
/-- The loop over an iterator. -/
theorem D_RF (hJ : Jst J U) {σ : Type} {own ls0 rest : List Rs} (H : Cur J U w (own ++ ls0 ++ rest)) {f : FuncId} {cap : List Value} [hf : Fo P f] {Kx : World → Prop} {next : σ → List Value → σ → Prop} {fin : σ → Prop} {s0 : σ} {sz : σ → Nat}
    (hit : IterC P f cap Kx own next fin s0 sz) (hKx : ∀ w, J w → Kx w) {n : Nat} (hlen : ∀ s x s', next s x s' → x.length = n) (I : σ → List Rs → Prop) (F : Code → List Rs → Prop) (N : Nat) (hN : ∀ s ls, I s ls → sz s ≤ N) (h0 : I s0 ls0)
    {rb : List Value → (Option Code → World → Prop) → World → Prop} {Kq : Option Code → Nat → World → Prop}
    (hround : ∀ (J' : World → Prop) (U' : Nat → Prop) (W : World) (s : σ) (x : List Value) (s' : σ) (ls : List Rs) (lb : Nat) (rc : Loop) (K : Option Code → World → Prop), Jst J' U' → (∀ w, J' w → J w) → next s x s' → I s ls → Cur J' U' W (ls ++ [.b lb (busy rc)]) →
      (∀ w3 ls', I s' ls' → Cur J' U' w3 (ls' ++ [.b lb (busy rc)]) → K none w3) → (∀ j w3 ls', F j ls' → Cur J' U' w3 (ls' ++ [.b lb (busy rc)]) → K (some j) w3) → rb x K W)
    (hdone : ∀ w3 d ls' s, fin s → I s ls' → Cur J U w3 (own ++ ls' ++ rest ++ [.b d (.deferred (some []))]) → Kq none d w3)
    (hstop : ∀ w3 d j ls', F j ls' → Cur J U w3 (own ++ ls' ++ rest ++ [.b d (.deferred (some []))]) → Kq (some j) d w3) :
    RF P (.func (.func f) #[] cap.toArray) n w (fun xs mid K w => mid w fun w => rb xs K w) Kq := by
  obtain ⟨fn, f1, f2, f3⟩ := hf.out
  refine ⟨f, cap.toArray, fn, rfl, f1, f2, f3, fun rc r1 r2 hr => ?_⟩
  have H1 := add_alloc hJ H (.deferred (some []))
  have H2 := add_alloc hJ H1 (.loop rc)
  rw [World.size_alloc] at H2
  generalize w.heap.size = d at *
  generalize (w.alloc (.deferred (some []))).alloc (.loop rc) = w2 at *
  have H3 : Cur J U w2 ((own ++ (ls0 ++ [.b (d + 1) (.loop rc)])) ++ (rest ++ [.b d (.deferred (some []))])) := by
    refine H2.perm ?_
    simp only [List.append_assoc]
    refine List.Perm.append_left _ (List.Perm.append_left _ ?_)
    have := List.perm_append_comm (l₁ := rest ++ [.b d (.deferred (some []))]) (l₂ := [.b (d + 1) (.loop rc)])
    simpa using this
  obtain ⟨J1, U1, hJ1, hJJ, H4, hback⟩ := H3.aside' hJ
  refine Calls.mono (hit J1 U1 w2 (.func (.yield (d + 1)) #[] #[]) _ (fun s ls => ∃ ls1, ls = ls1 ++ [.b (d + 1) (.loop rc)] ∧ I s ls1) (fun ls => ∃ ls1 j, ls = ls1 ++ [.b (d + 1) (after rc (some j))] ∧ F j ls1) N hJ1 (fun w h => hKx w (hJJ w h)) (fun s ls ⟨ls1, _, h⟩ => hN s ls1 h) H4 ⟨ls0, rfl, h0⟩ ?_) fun en w3 hh => ?_
  · rintro s x s' ls hx ⟨ls1, rfl, hI⟩ J' U' W k hJ' hJJ' HC hk
    refine hr (d + 1) x W k (hlen _ _ _ hx) (HC.blk last_at) ?_
    refine ⟨HC.blk last_at, ?_⟩
    have HB := turn_obj hJ' HC (busy rc) last_at
    rw [last_set] at HB
    refine hround J' U' _ s x s' ls1 (d + 1) rc _ hJ' (fun w h => hJJ w (hJJ' w h)) hx hI HB ?_ ?_
    · intro w3 ls' hI' HK
      refine ⟨HK.blk last_at, ?_⟩
      have HE := turn_obj hJ' HK (after rc none) last_at
      rw [last_set] at HE
      refine hk _ _ _ (.inl ⟨rfl, ls', ?_, hI'⟩) HE
      rw [Loop.same r1 r2]
    · intro j w3 ls' hF HK
      refine ⟨HK.blk last_at, ?_⟩
      have HE := turn_obj hJ' HK (after rc (some j)) last_at
      rw [last_set] at HE
      exact hk _ _ _ (.inr ⟨rfl, ls', j, rfl, hF⟩) HE
  · cases en with
    | returned v =>
      obtain ⟨ls', hl, HC⟩ := hh
      have HB := hback _ _ HC
      have fin1 : ∀ (ls1 : List Rs) (rc' : Loop), Cur J U w3 ((own ++ (ls1 ++ [.b (d + 1) (.loop rc')])) ++ (rest ++ [.b d (.deferred (some []))])) → w3.heap[d + 1]? = some (.loop rc') ∧ Cur J U (w3.putObj (d + 1) (over' rc')) (own ++ ls1 ++ rest ++ [.b d (.deferred (some []))]) := by
        intro ls1 rc' HX
        rw [mid_list] at HX
        refine ⟨HX.blk mid_at, ?_⟩
        have HY := turn_obj hJ HX (over' rc') mid_at
        rw [mid_set] at HY
        refine HY.drop ?_
        rw [List.append_assoc (own ++ ls1)]
        exact List.Sublist.append_left (List.sublist_cons_self _ _) _
      rcases hl with ⟨s, hfin, ls1, rfl, hI⟩ | ⟨ls1, j, rfl, hF⟩
      · obtain ⟨h1, h2⟩ := fin1 _ _ HB
        refine ⟨rc, h1, by rw [r1]; simp, ?_⟩
        rw [r2]
        exact hdone _ _ ls1 s hfin hI h2
      · obtain ⟨h1, h2⟩ := fin1 _ { rc with state := .done, pending := some j } HB
        exact ⟨_, h1, by simp, hstop _ _ j ls1 hF h2⟩
    | panicked c => exact hh.elim
    | outgrown => exact hh.elim
theorem D_mk (hJ : Jst J U) (H : Cur J U w l) (i : Nat) {d : Nat} (hi : l[i]? = some (.b d (.deferred (some [])))) {k : World → Prop} (hk : ∀ w', Cur J U w' (l.eraseIdx i) → k w') : Mk d w k := by
  refine ⟨H.blk hi, hk _ ((turn_obj hJ H (.deferred none) hi).drop ?_)⟩
  have : ∀ (l : List Rs) (i : Nat) (r : Rs), (l.eraseIdx i).Sublist (l.set i r) := by
    intro l
    induction l with
    | nil => intro i r; simp
    | cons a l ih =>
      intro i r
      cases i with
      | zero => simp
      | succ i => simp only [List.eraseIdx_cons_succ, List.set_cons_succ]; exact (ih i r).cons₂ a
  exact this l i _
end
end Go.Rv
namespace Go.Rv
open Go.RowKit
section
variable {P : Program} {J : World → Prop} {U : Nat → Prop} {w w0 : World} {l : List Rs} {k : KV}
def strs (l : List (List UInt8)) : List Value := l.map str
def ints (l : List Int) : List Value := l.map (Value.int .i64)
theorem strs_app (l : List (List UInt8)) (x : List UInt8) : strs l ++ [str x] = strs (l ++ [x]) := by simp [strs]
theorem ints_app (l : List Int) (x : Int) : ints l ++ [.int .i64 x] = ints (l ++ [x]) := by simp [ints]
theorem strs_len (l : List (List UInt8)) : (strs l).length = l.length := by simp [strs]
theorem ints_len (l : List Int) : (ints l).length = l.length := by simp [ints]
/-- A nil slice, as a resource of no block. -/
theorem Cur.nilS (H : Cur J U w l) (e : TypeId) (size : Nat) : Cur J U w (l ++ [.s (.slice none 0 0) e size 0 []]) :=
  (H.ghost (nil_ok (e := e) (size := size)) nil_foot).perm (List.perm_append_comm (l₁ := [_]))
end
end Go.Rv
namespace Go.Rv
theorem JK_n {qn qr : Prop} {qe : Nat → Prop} (h : qn) : JK none qn qr qe := ⟨h⟩
theorem JK_r {qn qr : Prop} {qe : Nat → Prop} (h : qr) : JK (some .ret) qn qr qe := ⟨h⟩
theorem JK_e {qn qr : Prop} {qe : Nat → Prop} {id : Nat} (h : qe id) : JK (some (.exit id)) qn qr qe := ⟨h⟩
theorem Join_k {K : List Value → World → Prop} {B : (List Value → World → Prop) → Prop} (h : ∀ k : List Value → World → Prop, (∀ vs w, K vs w → k vs w) → B k) : Join K B := ⟨K, fun _ _ h => h, h K fun _ _ h => h⟩
end Go.Rv
namespace Go.Rv
open Go.RowKit
section
variable {P : Program} {J : World → Prop} {U : Nat → Prop} {w w0 : World} {l : List Rs} {k : KV}
theorem D_mkSlc (hJ : Jst J U) (H : Cur J U w l) {t e : TypeId} {y : Nat} {z v : Value} [hs : Sl P t e 1 y z] (hv : v.cells = [v].toArray)
    (hk : ∀ w' b, Cur J U w' (l ++ [.b b (.cells [v].toArray e)]) → k (.slice (some ⟨b, 0, none⟩) 1 1) w') : D P (.mkSl t 1 [(0, v)]) k w :=
  D_mkSl1 (c := [v]) hJ H hv rfl (by simp) (by simp) hk
theorem D_mkSlN (hJ : Jst J U) (H : Cur J U w l) {t e : TypeId} {y : Nat} {z z0 : Value} [hs : Sl P t e 1 y z] (hz : z.cells = #[z0]) {n : Nat} {ps : List (Nat × Value)} {c : List Value} (hn : n ≤ 16777216)
    (hc : fillL ((List.range n).map fun i => (i, 1)) (List.replicate n z0) ps = some c)
    (hk : ∀ w' b, Cur J U w' (l ++ [.b b (.cells c.toArray e)]) → k (.slice (some ⟨b, 0, none⟩) n n) w') : D P (.mkSl t n ps) k w := by
  refine D_mkSl hJ H (c := c.toArray) (by omega) ?_ hk
  have e2 : (Array.range (n * 1)).map ((if n * 1 = 0 then #[] else z.cells)[· % (if n * 1 = 0 then #[] else z.cells).size]!) = (List.replicate n z0).toArray := by
    apply Array.ext
    · simp
    · intro i h1 h2
      have e1 : ¬ n * 1 = 0 := by simp at h2; omega
      simp only [if_neg e1, hz]
      simp [Nat.mod_one]
  rw [e2]
  exact fill_of (pl := (List.range n).map fun i => (i, 1)) (f := fun j => some (j * 1, 1)) (fun i p hp => by
    simp only [List.getElem?_map] at hp
    cases hr : (List.range n)[i]? with
    | none => rw [hr] at hp; cases hp
    | some i' =>
      rw [hr] at hp
      have := List.getElem?_eq_some_iff.1 hr
      simp at this
      cases hp
      rw [this.2]; simp) hc
theorem ev_len_s {t e ty : TypeId} {y sz n : Nat} {z sv : Value} {xs : List Value} [hs : Sl P t e sz y z] (h : (Rs.s sv e sz n xs).ok w) : Ev P (.bi .len #[t] ty [sv]) w (.int .i64 n) := by
  rw [s_ok] at h
  rcases h.2 with ⟨rfl, rfl⟩ | ⟨g, cap, cur, rfl, _⟩
  · have := ev_len_sl (P := P) (w := w) (t := t) (ty := ty) (n := 0) (c := 0) (a := none); simpa using this
  · exact ev_len_sl
theorem s_open {e : TypeId} {sz n : Nat} {sv : Value} {xs : List Value} (h : (Rs.s sv e sz n xs).ok w) (hn : n ≠ 0) : ∃ g cap cur, sv = .slice (some ⟨g, 0, none⟩) n cap ∧ BlkL w g cur ∧ cur.take (n * sz) = xs ∧ n ≤ cap := by
  rw [s_ok] at h
  rcases h.2 with ⟨_, h0⟩ | ⟨g, cap, cur, rfl, _, hb, hnc, _, _, ht⟩
  · exact absurd h0 hn
  · exact ⟨g, cap, cur.toList, rfl, ⟨e, (0, 0), by simpa using hb⟩, ht, hnc⟩
/-- append of one element of one cell -/
theorem D_append1 (hJ : Jst J U) (H : Cur J U w l) (idx : Nat) {t e ty : TypeId} {z v : Value} {bytes : Nat} [hsl : Sl P t e 1 bytes z]
    {sv : Value} {n : Nat} {xs : List Value} (hs : l[idx]? = some (.s sv e 1 n xs)) {b' : Nat} (hb : BlkL w b' [v]) (h1 : v.oneCell' = true)
    (h63 : n < 4294967296) (hbytes : bytes ≤ 1024)
    (hk : ∀ w' g cap, Cur J U w' (l.set idx (.s (.slice (some ⟨g, 0, none⟩) (n + 1) cap) e 1 (n + 1) (xs ++ [v]))) → k (.slice (some ⟨g, 0, none⟩) (n + 1) cap) w') : D P (.bi .append #[t, t] ty [sv, .slice (some ⟨b', 0, none⟩) 1 1]) k w := by
  refine D_append hJ H (idx := idx) (Nat.one_pos) hs hb (news := [v]) rfl rfl (fun u hu => by rw [List.mem_singleton.1 hu]; exact h1) (by unfold maxLen; omega) ?_ fun w' sv' H' => ?_
  rotate_left
  · have hlt : idx < l.length := (List.getElem?_eq_some_iff.1 hs).1
    obtain ⟨g, cap, _, rfl, _⟩ := s_open (H'.at (i := idx) (by rw [List.getElem?_set_self hlt])) (Nat.succ_ne_zero n)
    exact hk _ _ _ H'
  have : (n + 1) * bytes ≤ 4294967296 * 1024 := Nat.mul_le_mul (by omega) hbytes
  omega
end
end Go.Rv
