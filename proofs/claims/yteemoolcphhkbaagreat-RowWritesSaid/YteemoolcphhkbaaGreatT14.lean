/- Part of the proof that YteemoolcphhkbaaGreat holds whatever the input: a text of contracts, laws and steps; no condition. -/
import Derived.Test.YteemoolcphhkbaaGreatT13
import Derived.Test.YteemoolcphhkbaaGreatRvV
set_option linter.all false
set_option autoImplicit false
namespace Go.Proofs.YteemoolcphhkbaaGreat
open Go Go.Rv Go.RowKit
theorem code_a (S : RS) (r o : Int) : code S r o = S.a.code r o := by
  unfold code AS.code
  rw [a_okB]
  by_cases h : S.a.fine
  · simp only [h, decide_true, Bool.true_eq_false, if_false, not_true]; rfl
  · simp [h]
theorem live_a (d : Option DP) : (liveD d).map DP.D = AS.live (d.map DP.D) := by
  cases d with
  | none => rfl
  | some p => simp only [liveD, AS.live, Option.map_some]; split <;> rfl
theorem roleD_a (S : RS) (r i : Int) : (RS.roleD S r i).map DP.D = S.a.roleD r i := by
  unfold RS.roleD AS.roleD
  rw [a_at, show S.a.G = S.G from rfl, show S.a.built = S.built from rfl]
  cases S.ds[(S.G.colOf r i).toNat]? with
  | none => rfl
  | some d =>
    cases S.built[(S.G.colOf r i).toNat]? with
    | none => rfl
    | some b =>
      simp only [Option.map_some]
      split
      · rfl
      · exact live_a d
theorem roleR_a (S : RS) (r o i : Int) : RS.roleR S r o i = S.a.roleR r o i := by
  unfold RS.roleR AS.roleR
  rw [← roleD_a]
  cases RS.roleD S r i <;> rfl
theorem wD_a (S : RS) (r i : Int) : (RS.wD S r i).map DP.D = S.a.at' (S.a.G.colOf r i) := by
  unfold RS.wD AS.at'
  rw [a_at, show S.a.G = S.G from rfl]
  cases S.ds[(S.G.colOf r i).toNat]? with
  | none => rfl
  | some d => exact live_a d
theorem wcode_a (S : RS) (r o i : Int) (x : Sec) : RS.wcode S r o i x = S.a.wcode r o i x := by
  unfold RS.wcode AS.wcode
  rw [code_a, ← wD_a]
  cases RS.wD S r i <;> rfl
theorem may_a (S : RS) {w0 : World} (hf : S.fit 116) (hs : S.is w0) : PureC pg 21 [S.v] w0 fun v _ => v = .bool (decide S.a.fine) := by
  have := may_set_c S hf hs
  rwa [a_okB] at this
/-- A write to a set, whichever it is. -/
theorem write_a (S : RS) (r o i : Int) (x : Sec) {w0 : World} (hf : S.fit 116) (hxl : x.length ≤ 4294967296) (hn : S.a.small 1099511627775) :
    TurnsC pg 13 [S.v, .int .i64 r, .int .i64 o, .int .i64 i, str x] [] w0 [.all (srs S)] fun v ls => ∃ r', ls = [r'] ∧ ∃ S' : RS, v = .int .i64 (S.a.wcode r o i x) ∧ (∃ ds', S' = { S with ds := ds' } ∧ ds'.length = S.ds.length) ∧ S'.fit 116 ∧ S'.a = S.a.write r o i x ∧ r' = .all (srs S') := by
  refine TurnsC.mono (rowwrite_c S 40 3 r o i x hf hxl (fun p hp j => by have := hn p.D (a_mem.2 ⟨p, hp, rfl⟩) j; omega)).one ?_
  rintro v ls ⟨r', rfl, l', rfl, rfl, ⟨h0, rfl⟩ | ⟨p, p', hd, hb, hg, hD, rfl⟩⟩
  · refine ⟨_, rfl, S, by rw [wcode_a], ⟨_, rfl, rfl⟩, hf, ?_, rfl⟩
    rw [AS.write, if_pos (by rw [← wcode_a]; exact h0)]
  · refine ⟨_, rfl, S.put (S.G.colOf r i).toNat p', by rw [wcode_a], ⟨_, rfl, by simp⟩, RS.put_fit hf hd hb hg, ?_, rfl⟩
    · rw [a_put, hD]
      unfold AS.write
      rw [← wcode_a]
      by_cases h0 : RS.wcode S r o i x = 0
      · rw [if_pos h0, if_neg (by simpa using h0)]
        have hl : S.a.at' (S.a.G.colOf r i) = some p.D := by
          rw [← wD_a]
          have : RS.wD S r i = liveD (some p) := by unfold RS.wD; rw [hd]
          rw [this]
          by_cases hdd : p.D.dead = true
          · exfalso
            unfold RS.wcode at h0
            split at h0
            · omega
            · split at h0
              · omega
              · rw [this] at h0; simp [liveD, hdd] at h0
          · simp [liveD, hdd]
        rw [hl]
        rfl
      · rw [if_neg h0, if_pos h0]
        unfold AS.put RS.a
        have : (S.ds.map (Option.map DP.D)).set (S.G.colOf r i).toNat (some p.D) = S.ds.map (Option.map DP.D) := by
          have hc := (List.getElem?_eq_some_iff.1 hd).1
          have hh : (S.ds.map (Option.map DP.D))[(S.G.colOf r i).toNat]? = some (some p.D) := by simp [hd]
          obtain ⟨h1, h2⟩ := List.getElem?_eq_some_iff.1 hh
          rw [← h2]
          exact List.set_getElem_self h1
        rw [this]
end Go.Proofs.YteemoolcphhkbaaGreat
