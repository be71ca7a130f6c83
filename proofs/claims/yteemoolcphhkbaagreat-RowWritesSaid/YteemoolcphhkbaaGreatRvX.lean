/- Part of the proof that YteemoolcphhkbaaGreat holds whatever the input: a text of contracts, laws and steps; no condition. -/
import Derived.Test.YteemoolcphhkbaaGreatRvV
set_option linter.all false
set_option autoImplicit false
namespace Go.Rv
open Go.RowKit Go.ChangeMaps
/-! ### Ranges over maps; sets of keys -/
section
variable {P : Program} {J : World → Prop} {U : Nat → Prop} {w w0 : World} {l : List Rs} {k : KV}
theorem turn_blk (hJ : Jst J U) (H : Cur J U w l) {i b : Nat} {o : Obj} (o' : Obj) (hi : l[i]? = some (.b b o)) : Cur J U (setBlock w b o') (l.set i (.b b o')) := by
  have : setBlock w b o' = w.putObj b o' := rfl
  rw [this]
  exact turn_obj hJ H o' hi
theorem D_range (hJ : Jst J U) (H : Cur J U w l) {t kt e : TypeId} {z : Value} {b clock : Nat} {es : Array MapEntry} [h : Mp P t kt e z] (hb : w.heap[b]? = some (.map es clock))
    (hk : ∀ w' r, Cur J U w' (l ++ [.b r (.mapIter (some b) clock #[] clock)]) → k (.pointer (some ⟨r, 0, none⟩)) w') : D P (.range t (.map (some b))) k w := by
  obtain ⟨h1, h2, i, h3, h4⟩ := h.out
  have hr : (VOp.sem (.range t (.map (some b)))).run P w = .ok (.value (.pointer (some ⟨w.heap.size, 0, none⟩))) (w.alloc (.mapIter (some b) clock #[] clock)) := by
    simp only [VOp.sem, Instr.range]
    simp only [Sem.run_bind, run_underlying h1, Result.andThen, getObj, Sem.run, hb, Sem.run_pure, run_newObj_alloc]
  exact D_run hr (hk _ _ (add_alloc hJ H _))
theorem D_next (hJ : Jst J U) (H : Cur J U w l) (i : Nat) {r bm c c0 : Nat} {seen : Array Nat} {es : List MapEntry} {ty : TypeId} (hi : l[i]? = some (.b r (.mapIter (some bm) c seen c0))) (hm : w.heap[bm]? = some (.map es.toArray c)) (hI : MapI es c) (hc : c ≤ c0)
    (h0 : (∀ e ∈ es, e.born ∈ seen.toList) → k (.tuple #[.bool false]) w)
    (h1 : ∀ e w', e ∈ es → e.born ∉ seen.toList → Cur J U w' (l.set i (.b r (.mapIter (some bm) c (seen.push e.born) c))) → k (.tuple #[.bool true, e.key, e.val]) w') : D P (.next (.pointer (some ⟨r, 0, none⟩)) false ty) k w := by
  rcases run_next_at (P := P) w ty r bm c c0 seen es.toArray c (H.blk hi) hm (fun x hx => hI.old x (by simpa using hx)) hc with ⟨hs, hr⟩ | ⟨e, he, w1, hw1, hr⟩
  · refine D_run (v := .tuple #[.bool false]) (w' := w) ?_ (h0 fun e he => ?_)
    · simp only [VOp.sem]; rw [Sem.run_bind, hr]; rfl
    · apply Classical.byContradiction
      intro hn
      have : e ∈ (leftOf es.toArray seen) := by
        unfold leftOf
        simp only [Array.mem_filter, List.mem_toArray]
        refine ⟨he, ?_⟩
        have : e.born ∉ seen := by simpa using hn
        simpa [Array.contains_iff] using this
      have h2 := Array.size_eq_zero_iff.1 hs
      rw [h2] at this
      simp at this
  · have he' : e ∈ es ∧ e.born ∉ seen.toList := by
      unfold leftOf at he
      simp only [Array.toList_filter, List.mem_filter] at he
      refine ⟨he.1, ?_⟩
      have := he.2
      simpa [Array.contains_iff] using this
    have H1 : Cur J U w1 l := by
      rcases hw1 with rfl | rfl
      · exact H
      · exact H.step hJ ⟨rfl, rfl, rfl, Nat.le_refl _, fun _ _ _ => rfl⟩
    refine D_run (v := .tuple #[.bool true, e.key, e.val]) (w' := setBlock w1 r (.mapIter (some bm) c (seen.push e.born) c)) ?_ (h1 e _ he'.1 he'.2 (turn_blk hJ H1 _ hi))
    simp only [VOp.sem]; rw [Sem.run_bind, hr]; rfl
theorem ev_entry {r bm c : Nat} {seen : Array Nat} {es : List MapEntry} {e : MapEntry} (hi : w.heap[r]? = some (.mapIter (some bm) c (seen.push e.born) c)) (hm : w.heap[bm]? = some (.map es.toArray c)) (hI : MapI es c) (he : e ∈ es) :
    Ev P (.entry (.pointer (some ⟨r, 0, none⟩))) w (.tuple #[e.key, e.val]) := by
  have := run_entry_at (P := P) w r bm c seen es.toArray c e hi hm (by simpa using he) (by simpa using hI.born)
  unfold Ev
  simp only [VOp.sem]; rw [Sem.run_bind, this]; rfl
end
/-- The keys of a map. -/
def keysI (es : List MapEntry) : List Int := es.map fun e => keyI e.key
theorem map_inj_of_nodup {α β : Type} {f : α → β} : ∀ {l : List α}, (l.map f).Nodup → ∀ {a b : α}, a ∈ l → b ∈ l → f a = f b → a = b
  | [], _, _, _, h, _, _ => by cases h
  | x :: l, hn, a, b, ha, hb, he => by
    simp only [List.map_cons, List.nodup_cons] at hn
    rcases List.mem_cons.1 ha with rfl | ha'
    · rcases List.mem_cons.1 hb with rfl | hb'
      · rfl
      · exact absurd (by rw [he]; exact List.mem_map_of_mem hb') hn.1
    · rcases List.mem_cons.1 hb with rfl | hb'
      · exact absurd (by rw [← he]; exact List.mem_map_of_mem ha') hn.1
      · exact map_inj_of_nodup hn.2 ha' hb' he
theorem nodup_of_map {α β : Type} {f : α → β} : ∀ {l : List α}, (l.map f).Nodup → l.Nodup
  | [], _ => List.nodup_nil
  | x :: l, hn => by
    simp only [List.map_cons, List.nodup_cons] at hn
    exact List.nodup_cons.2 ⟨fun h => hn.1 (List.mem_map_of_mem h), nodup_of_map hn.2⟩
theorem nodup_len {α : Type} : ∀ {l m : List α}, l.Nodup → (∀ x ∈ l, x ∈ m) → l.length ≤ m.length
  | [], _, _, _ => Nat.zero_le _
  | x :: l, m, hn, hs => by
    obtain ⟨hx, hn⟩ := List.nodup_cons.1 hn
    obtain ⟨a, b, rfl⟩ := List.append_of_mem (hs x (List.mem_cons_self ..))
    have := nodup_len (l := l) (m := a ++ b) hn fun y hy => by
      have h1 := hs y (List.mem_cons_of_mem _ hy)
      simp only [List.mem_append, List.mem_cons] at h1 ⊢
      rcases h1 with h | h | h
      · exact .inl h
      · subst h; exact absurd hy hx
      · exact .inr h
    simp only [List.length_cons, List.length_append] at *
    omega
end Go.Rv
namespace Go.Rv
open Go.RowKit Go.ChangeMaps
section
variable {P : Program} {J : World → Prop} {U : Nat → Prop} {w w0 : World} {l : List Rs} {k : KV}
theorem IterC.weaken {σ : Type} {f : FuncId} {cap : List Value} {Kx Kx' : World → Prop} {own : List Rs} {next : σ → List Value → σ → Prop} {fin : σ → Prop} {s0 : σ} {sz : σ → Nat} (h : IterC P f cap Kx own next fin s0 sz) (hK : ∀ w, Kx' w → Kx w) : IterC P f cap Kx' own next fin s0 sz :=
  fun J U w y ls I F N hJ hKx hN H h0 hy => h J U w y ls I F N hJ (fun w hj => hK w (hKx w hj)) hN H h0 hy
/-- A run over a sorted slice's block. -/
theorem s_nil {e : TypeId} {sz : Nat} {sv : Value} {xs : List Value} {w : World} (h : (Rs.s sv e sz 0 xs).ok w) : ∃ a c, sv = .slice a 0 c := by
  rw [s_ok] at h
  rcases h.2 with ⟨rfl, _⟩ | ⟨g, cap, cur, rfl, _⟩ <;> exact ⟨_, _, rfl⟩
end
end Go.Rv
