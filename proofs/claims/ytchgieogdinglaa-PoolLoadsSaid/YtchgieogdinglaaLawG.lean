/- awake. -/
import Derived.Test.YtchgieogdinglaaLawF
set_option linter.unusedSimpArgs false
set_option linter.unusedVariables false
namespace Go.Proofs.Ytchgieogdinglaa
open Go.RowKit
open Ser

theorem only_zero {l : List Int} (hn : l.Nodup) (h : ∀ x, x ∈ l ↔ ∃ t ∈ firstTims 1, t.1 = x ∧ t.2.1 = (0 : Int) + 1) : l = [0] := by
  have h0 : ∀ x, x ∈ l ↔ x = 0 := by
    intro x
    rw [h]
    constructor
    · rintro ⟨t, ht, rfl, _⟩
      simp [firstTims] at ht
      rw [ht]
    · rintro rfl
      exact ⟨(0, 1, 0), by simp [firstTims], rfl, rfl⟩
  cases l with
  | nil => have := (h0 0).2 rfl; cases this
  | cons a r =>
    have ha : a = 0 := (h0 a).1 List.mem_cons_self
    cases r with
    | nil => rw [ha]
    | cons b r =>
      have hb : b = 0 := (h0 b).1 (by simp)
      rw [ha, hb] at hn
      simp at hn

set_option maxHeartbeats 1000000 in
set_option maxRecDepth 20000 in
theorem law_awake (w : World) : Calls Try.prog 11 #[] w fun e w' => e = .returned (.bool true) ∧ Kept (fun _ => False) w w' := by
  have hnew := pool_New w 1 (by omega) (by omega) 1 1 0 1 1 (by unfold HealthOk; omega) (by omega) (by omega) (by omega)
  have HNEW := Lib.hid hnew
  clear hnew
  go_enter Try.func11, Try.ntmps11
  go_wp2_with fail
  refine HNEW.out.mono ?_
  rintro e w1 ⟨ab, pb, wb, bs, lv, F, mb, sl, sv, rfl, hl, M⟩
  obtain ⟨lb, cap, G, I, hw, hFG, hFp, hFl, hFh, hG0⟩ := M.inv (by omega) (by omega) (by unfold HealthOk; omega) (by omega) (by omega) (by omega)
  have ht := pool_Tick I (by omega) hw hFG hFp hFl hFh
  have hst0 : ∀ b ∈ bs, b.st = 0 := fun b hb => (M.b b hb).1
  have HT := Lib.hid ht
  have HM := Lib.hid M
  have HL := Lib.hid hl
  have HS := Lib.hid hst0
  have HG := Lib.hid hG0
  clear M I hw hFG hFp hFl hFh ht hl hst0 hG0
  go_wp2_with fail
  refine HT.out.mono ?_
  rintro e w2 ⟨v, l, rfl, hnd, hmm, hri, hfr, hll, hp, hk⟩
  rw [HL.out] at hmm
  obtain rfl := only_zero hnd hmm
  obtain ⟨b, rfl⟩ : ∃ b, bs = [b] := List.length_eq_one_iff.1 HL.out
  have hb0 : b.st = 0 := HS.out b List.mem_cons_self
  have hfold : tfold [b] [0] = ([{ b with st := 1 }], [0]) := by simp [tfold, tstep, hb0]
  rw [hfold] at hri hp
  obtain ⟨ao, cap2, rfl, _⟩ := hri.open_
  have hstate := pool_State hp.p hp.r hp.n 0
  have hso : stateOf [{ b with st := 1 }] 0 = 1 := rfl
  rw [hso] at hstate
  have HST := Lib.hid hstate
  have kk : Kept (fun _ => False) w w2 := HM.out.kept.trans' hk (fun i hi hG => by have := HG.out i hG; omega)
  clear hri hp hk hmm hnd hfr hfold hstate hso hb0
  go_wp2_with (go_at_call 9; refine HST.out.mono ?_; rintro e w' ⟨rfl, rfl⟩)
  go_ret
  exact ⟨rfl, kk⟩
end Go.Proofs.Ytchgieogdinglaa
