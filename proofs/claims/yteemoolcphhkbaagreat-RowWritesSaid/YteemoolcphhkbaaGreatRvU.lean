/- Part of the proof that YteemoolcphhkbaaGreat holds whatever the input: a text of contracts, laws and steps; no condition. -/
import Derived.Test.YteemoolcphhkbaaGreatRvT
import Derived.Laws.Small
set_option linter.all false
set_option autoImplicit false
namespace Go.Rv
open Go.RowKit
/-! ### Picking resources; bools compared; slices opened to blocks; composites -/
inductive Take : List Rs → Rs → List Rs → Prop
  | here {r : Rs} {l : List Rs} : Take (r :: l) r l
  | there {a r : Rs} {l l' : List Rs} : Take l r l' → Take (a :: l) r (a :: l')
inductive Sel : List Rs → List Rs → Prop
  | nil {l : List Rs} : Sel l []
  | cons {l l2 l' : List Rs} {r : Rs} : Take l r l2 → Sel l2 l' → Sel l (r :: l')
theorem Take.perm {l l' : List Rs} {r : Rs} (h : Take l r l') : l.Perm (r :: l') := by
  induction h with
  | here => exact List.Perm.refl _
  | there _ ih => exact (ih.cons _).trans (List.Perm.swap _ _ _)
theorem Sel.perm {l l' : List Rs} (h : Sel l l') : ∃ l'', l.Perm (l' ++ l'') := by
  induction h with
  | nil => exact ⟨_, List.Perm.refl _⟩
  | cons ht _ ih => obtain ⟨l'', hp⟩ := ih; exact ⟨l'', ht.perm.trans (hp.cons _)⟩
section
variable {P : Program} {J : World → Prop} {U : Nat → Prop} {w w0 : World} {l ps : List Rs} {r : Rs} {k : KV}
theorem Cur.sel (H : Cur J U w l) {l' : List Rs} (h : Sel l l') : Cur J U w l' := by
  obtain ⟨l'', hp⟩ := h.perm
  exact (H.perm hp).drop (List.sublist_append_left _ _)
/-- A slice of one's own is a block. -/
theorem Cur.opened (H : Cur J U w l) {i : Nat} {sv : Value} {e : TypeId} {sz n : Nat} {xs : List Value} (hi : l[i]? = some (.s sv e sz n xs)) (hn : n ≠ 0) :
    ∃ (g cap : Nat) (cur : List Value), sv = .slice (some ⟨g, 0, none⟩) n cap ∧ cur.take (n * sz) = xs ∧ n ≤ cap ∧ cur.length = cap * sz ∧ Cur J U w (l.set i (.b g (.cells cur.toArray e))) := by
  have h := H.at hi
  rw [s_ok] at h
  rcases h.2 with ⟨_, h0⟩ | ⟨g, cap, cur, rfl, _, hb, hnc, _, hs, ht⟩
  · exact absurd h0 hn
  · refine ⟨g, cap, cur.toList, rfl, ht, hnc, by simpa using hs, H.j, fun r hr => ?_, fun r hr b hb' => ?_, ?_⟩
    · rcases mem_set_cases (i := i) hr with rfl | ⟨j, _, hj⟩
      · rw [b_ok]; simpa using hb
      · exact H.ok r (List.mem_of_getElem? hj)
    · rcases mem_set_cases (i := i) hr with rfl | ⟨j, _, hj⟩
      · rw [b_foot] at hb'; subst hb'
        exact H.own _ (List.mem_of_getElem? hi) _ (by rw [s_foot]; rfl)
      · exact H.own r (List.mem_of_getElem? hj) b hb'
    · have hp := H.ap
      rw [List.pairwise_iff_getElem] at hp ⊢
      obtain ⟨hil, his⟩ := List.getElem?_eq_some_iff.1 hi
      have hf : ∀ b, (Rs.b g (.cells cur.toList.toArray e)).foot b → (Rs.s (.slice (some ⟨g, 0, none⟩) n cap) e sz n xs).foot b := fun b hb' => by rw [b_foot] at hb'; subst hb'; rw [s_foot]; rfl
      intro a c ha hc hac b
      simp only [List.length_set] at ha hc
      rw [List.getElem_set, List.getElem_set]
      split
      · rename_i e1
        subst e1
        rw [if_neg (by omega)]
        intro h1 h2
        have := hp i c ha hc hac b
        rw [his] at this
        exact this (hf b h1) h2
      · split
        · rename_i e1
          subst e1
          intro h1 h2
          have := hp a i ha hc hac b
          rw [his] at this
          exact this h1 (hf b h2)
        · exact hp a c ha hc hac b
/-- A bool type. -/
class Bo (P : Program) (t : TypeId) : Prop where
  out : P.underlying t = some .bool
def boB (d : Option TypeDesc) : Bool := match d with | some .bool => true | _ => false
theorem bo_of {t : TypeId} (h : boB (P.underlying t) = true) : Bo P t := by
  unfold boB at h
  split at h
  · rename_i hd; exact ⟨hd⟩
  · cases h
theorem bo_eq {t : TypeId} {a b : Bool} [h : Bo P t] : Ev P (.bin .eql t (.bool a) (.bool b)) w (.bool (a == b)) := by
  unfold Ev
  simp [VOp.sem, eqGuard, Sem.run_bind, run_eql_bool w t a b h.out]
theorem bo_ne {t : TypeId} {a b : Bool} [h : Bo P t] : Ev P (.bin .neq t (.bool a) (.bool b)) w (.bool (!(a == b))) := by
  unfold Ev
  simp [VOp.sem, eqGuard, Sem.run_bind, run_neq_bool w t a b h.out]
instance {t : TypeId} [Bo P t] : EvT P J l (.bin .eql t (.bool true) (.bool true)) (.bool true) True := ⟨fun _ _ _ _ => bo_eq⟩
instance {t : TypeId} [Bo P t] : EvT P J l (.bin .eql t (.bool false) (.bool false)) (.bool true) True := ⟨fun _ _ _ _ => bo_eq⟩
instance {t : TypeId} [Bo P t] : EvT P J l (.bin .eql t (.bool true) (.bool false)) (.bool false) True := ⟨fun _ _ _ _ => bo_eq⟩
instance {t : TypeId} [Bo P t] : EvT P J l (.bin .eql t (.bool false) (.bool true)) (.bool false) True := ⟨fun _ _ _ _ => bo_eq⟩
instance {t : TypeId} [Bo P t] : EvT P J l (.bin .neq t (.bool true) (.bool true)) (.bool false) True := ⟨fun _ _ _ _ => bo_ne⟩
instance {t : TypeId} [Bo P t] : EvT P J l (.bin .neq t (.bool false) (.bool false)) (.bool false) True := ⟨fun _ _ _ _ => bo_ne⟩
instance {t : TypeId} [Bo P t] : EvT P J l (.bin .neq t (.bool true) (.bool false)) (.bool true) True := ⟨fun _ _ _ _ => bo_ne⟩
instance {t : TypeId} [Bo P t] : EvT P J l (.bin .neq t (.bool false) (.bool true)) (.bool true) True := ⟨fun _ _ _ _ => bo_ne⟩
/-- Of a row of slices of one's own each is a resource: one more is taken in. -/
theorem Cur.absorb (H : Cur J U w (r :: Rs.all ps :: l)) : Cur J U w (Rs.all (ps ++ [r]) :: l) := by
  have H1 : Cur J U w (Rs.all ps :: (r :: l)) := H.perm (List.Perm.swap _ _ _)
  have H2 := H1.open
  refine Cur.close (H2.perm ?_)
  rw [List.append_assoc]
  exact List.Perm.append_left _ (List.Perm.refl _)
theorem Cur.none_all (H : Cur J U w l) : Cur J U w (Rs.all [] :: l) := Cur.close H
end
end Go.Rv
namespace Go.Rv
open Go.RowKit
/-! ### The reference's drives: what they are, and where they lie -/
structure RDr where
  safes : List Sec
  writes : List (List Sec)
  spoilt : List Bool
  gone : Bool
  cut : Bool
  left : Int
def RDr.fresh (n : Nat) : RDr := ⟨List.replicate n blank, List.replicate n [], List.replicate n false, false, false, 0⟩
structure RDP where
  b : Nat
  sv : Value
  wv : Value
  pv : Value
  ws : List Value
  D : RDr
def bools (l : List Bool) : List Value := l.map Value.bool
def RDP.inner (ts : TypeId) : List Value → List (List Sec) → List Rs
  | v :: vs, x :: xs => .s v ts 1 x.length (strs x) :: RDP.inner ts vs xs
  | _, _ => []
def RDP.parts (p : RDP) (td ts tss tb : TypeId) : List Rs :=
  [.b p.b (.cells [p.sv, p.wv, p.pv, .bool p.D.gone, .bool p.D.cut, .int .i64 p.D.left].toArray td), .s p.sv ts 1 p.D.safes.length (strs p.D.safes), .s p.wv tss 1 p.ws.length p.ws, .s p.pv tb 1 p.D.spoilt.length (bools p.D.spoilt)] ++ RDP.inner ts p.ws p.D.writes
def RDP.r (p : RDP) (td ts tss tb : TypeId) : Rs := .all (p.parts td ts tss tb)
theorem inner_fresh {ts : TypeId} : ∀ n, RDP.inner ts (List.replicate n (.slice none 0 0)) (List.replicate n []) = List.replicate n (.s (.slice none 0 0) ts 1 0 [])
  | 0 => rfl
  | n + 1 => by simp only [List.replicate_succ, RDP.inner, inner_fresh n]; rfl
section
variable {J : World → Prop} {U : Nat → Prop} {w : World} {l : List Rs}
theorem Cur.nilsS (H : Cur J U w l) (e : TypeId) (size : Nat) : ∀ n, Cur J U w (List.replicate n (.s (.slice none 0 0) e size 0 []) ++ l)
  | 0 => H
  | n + 1 => by rw [List.replicate_succ, List.cons_append]; exact (Cur.nilsS H e size n).ghost nil_ok nil_foot
end
end Go.Rv
namespace Go.Rv
theorem strs_rep (i : Nat) (x : List UInt8) : strs (List.replicate i x) ++ [str x] = strs (List.replicate (i + 1) x) := by rw [strs_app, List.replicate_succ']
theorem bools_rep (i : Nat) (x : Bool) : bools (List.replicate i x) ++ [.bool x] = bools (List.replicate (i + 1) x) := by simp [bools, List.replicate_succ']
theorem vals_rep (i : Nat) (x : Value) : List.replicate i x ++ [x] = List.replicate (i + 1) x := List.replicate_succ'.symm
theorem bools_len (l : List Bool) : (bools l).length = l.length := by simp [bools]
end Go.Rv
namespace Go.Rv
open Go.RowKit
def rptr : Option RDP → Value
  | some p => .pointer (some ⟨p.b, 0, none⟩)
  | none => .pointer none
/-- A set of the reference. -/
structure QS where
  G : Geo
  ds : List (Option RDP)
  built : List Int
  dv : Value
  bv : Value
abbrev QS.v (R : QS) : Value := .agg [.int .i64 R.G.cols, .int .i64 R.G.chunk, .int .i64 R.G.rows, R.dv, R.bv].toArray
def RDP.ro (td ts tss tb : TypeId) : Option RDP → Rs
  | some p => p.r td ts tss tb
  | none => .no
def QS.rs (R : QS) (td ts tss tb dt bt : TypeId) : List Rs := .s R.dv dt 1 R.ds.length (R.ds.map rptr) :: .s R.bv bt 1 R.built.length (ints R.built) :: R.ds.map (RDP.ro td ts tss tb)
section
variable {P : Program} {J : World → Prop} {U : Nat → Prop} {w w0 : World} {l : List Rs} {k : KV}
theorem TurnsC.one {f : FuncId} {args cap : List Value} {ls : List Rs} {Q : Value → List Rs → Prop} (h : TurnsC P f args cap w ls Q) : TurnsC P f args cap w [Rs.all ls] fun v l => ∃ r', l = [r'] ∧ ∃ l', r' = Rs.all l' ∧ Q v l' := by
  intro J U hJ H
  refine Calls.mono (h J U hJ (H.open.drop (by simp))) fun e w' h => ?_
  cases e with
  | returned v => obtain ⟨l', h1, h2⟩ := h; exact ⟨_, ⟨_, rfl, l', rfl, h1⟩, Cur.close (by rw [List.append_nil]; exact h2)⟩
  | panicked c => exact h.elim
  | outgrown => exact h.elim
end
end Go.Rv
namespace Go.Rv
open Go.RowKit
section
variable {P : Program} {J : World → Prop} {U : Nat → Prop} {w w0 : World} {l l1 l2 ps : List Rs} {r : Rs}
theorem Cur.takeIn (H : Cur J U w l) (h1 : Take l r l1) (h2 : Take l1 (Rs.all ps) l2) : Cur J U w (Rs.all (ps ++ [r]) :: l2) :=
  (H.perm (h1.perm.trans (h2.perm.cons r))).absorb
theorem Cur.openT (H : Cur J U w l) (h : Take l (Rs.all ps) l2) : Cur J U w (ps ++ l2) := (H.perm h.perm).open
end
theorem map_one {α β : Type} (f : α → β) (l : List α) (x : α) : l.map f ++ [f x] = (l ++ [x]).map f := by simp
theorem ints_rep (i : Nat) (x : Int) : ints (List.replicate i x) ++ [.int .i64 x] = ints (List.replicate (i + 1) x) := by rw [ints_app, List.replicate_succ']
end Go.Rv
namespace Go.Rv
open Go.RowKit
theorem s_slice {w : World} {e : TypeId} {sz n : Nat} {sv : Value} {xs : List Value} (h : (Rs.s sv e sz n xs).ok w) : ∃ a m c, sv = .slice a m c := by
  rw [s_ok] at h
  rcases h.2 with ⟨rfl, _⟩ | ⟨g, cap, cur, rfl, _⟩ <;> exact ⟨_, _, _, rfl⟩
theorem take_at {α : Type} {l xs : List α} {n j : Nat} {x : α} (h : l.take n = xs) (hx : xs[j]? = some x) : l[j]? = some x := by
  have hj : j < xs.length := (List.getElem?_eq_some_iff.1 hx).1
  rw [← h, List.length_take] at hj
  rw [← h, List.getElem?_take_of_lt (by omega)] at hx
  exact hx
end Go.Rv
