/- The reference: its health model; its wheel's find. They do not panic, and keep their form. -/
import Derived.Test.YtchgieogdinglaaPoolH
set_option linter.unusedSimpArgs false
set_option linter.unusedVariables false
namespace Go.Proofs.Ytchgieogdinglaa
open Go.RowKit
open Ser

/-- The reference's model: K bounds its run. -/
def RM (w : World) (b : Nat) (K : Int) : Prop := ∃ fl rs hd rn ho, ∃ down : Bool, Blk w b 85 #[.int .i64 fl, .int .i64 rs, .int .i64 hd, .bool down, .int .i64 rn, .int .i64 ho] ∧ 0 ≤ rn ∧ rn ≤ K ∧ 0 ≤ ho ∧ ho ≤ 1073741824 ∧ 0 ≤ hd ∧ hd ≤ 1073741824
theorem RM.more {w : World} {b : Nat} {K K' : Int} (h : RM w b K) (hK : K ≤ K') : RM w b K' := by
  obtain ⟨fl, rs, hd, rn, ho, down, h1, h2, h3, h4⟩ := h
  exact ⟨fl, rs, hd, rn, ho, down, h1, h2, by omega, h4⟩
theorem RM.kept {F : Nat → Prop} {w w1 : World} {b : Nat} {K : Int} (h : RM w b K) (k : Kept F w w1) (hb : ¬ F b) : RM w1 b K := by
  obtain ⟨fl, rs, hd, rn, ho, down, h1, h2⟩ := h
  exact ⟨fl, rs, hd, rn, ho, down, Blk.kept h1 k hb, h2⟩

set_option maxHeartbeats 400000 in
theorem ref_hTick {w : World} {b : Nat} {K : Int} (h : RM w b K) : Calls Try.prog 46 #[.pointer (some ⟨b, 0, none⟩)] w fun e w' => e = .returned (.tuple #[]) ∧ RM w' b K ∧ Kept (· = b) w w' := by
  obtain ⟨fl, rs, hd, rn, ho, down, hb, h1, h2, h3, h4, h5⟩ := h
  have c5 : w.cell? ⟨b, 5, none⟩ = some (.int .i64 ho) := (Blk.cell hb 5).trans rfl
  have f5 := Blk.frozen hb 5
  by_cases hh : 0 < ho
  · have eh : decide (0 < ho) = true := by simpa using hh
    have HB := Lib.hid hb
    clear hb
    go_enter Try.func46, Try.ntmps46
    go_wp2
    go_end0
    exact ⟨rfl, ⟨fl, rs, hd, rn, ho - 1, down, Blk.set_ HB.out 5 _, h1, h2, by omega, by omega, h5⟩, (Kept.refl _ _).put _⟩
  · have eh : decide (0 < ho) = false := by simpa using hh
    have HB := Lib.hid hb
    clear hb
    go_enter Try.func46, Try.ntmps46
    go_wp2
    go_end0
    exact ⟨rfl, ⟨fl, rs, hd, rn, ho, down, HB.out, h1, h2, h3, h4, h5⟩, Kept.refl _ _⟩

set_option maxHeartbeats 1000000 in
set_option maxRecDepth 20000 in
theorem ref_hNew (fl rs hd : Int) (w : World) (h : HealthOk fl rs hd) :
    Calls Try.prog 16 #[.agg #[.int .i64 fl, .int .i64 rs, .int .i64 hd]] w fun e w' => ∃ b, e = .returned (.tuple #[.pointer (some ⟨b, 0, none⟩), .int .i64 0]) ∧ w.heap.size ≤ b ∧ RM w' b 0 ∧ Kept (fun _ => False) w w' := by
  obtain ⟨a1, a2, a3, a4, a5, a6⟩ := h
  have e1 : decide (fl < 1) = false := by simp; omega
  have e2 : decide (1000 < fl) = false := by simp; omega
  have e3 : decide (rs < 1) = false := by simp; omega
  have e4 : decide (1000 < rs) = false := by simp; omega
  have e5 : decide (hd < 0) = false := by simp; omega
  have e6 : decide (1073741824 < hd) = false := by simp; omega
  go_enter Try.func16, Try.ntmps16
  go_wp2
  go_ret2
  exact ⟨_, rfl, by simp, ⟨fl, rs, hd, 0, 0, false, Blk.new' _ _ _ (by simp), by omega, by omega, by omega, by omega, a5, a6⟩, ((Kept.refl _ _).alloc _).alloc _⟩

set_option maxHeartbeats 1000000 in
set_option maxRecDepth 20000 in
theorem ref_hProbe {w : World} {b : Nat} {K : Int} (h : RM w b K) (hK : K ≤ 576460752303423488) (good : Bool) : Calls Try.prog 51 #[.pointer (some ⟨b, 0, none⟩), .bool good] w fun e w' => e = .returned (.tuple #[]) ∧ RM w' b (K + 1) ∧ Kept (· = b) w w' := by
  obtain ⟨fl, rs, hd, rn, ho, down, hb, h1, h2, h3, h4, h5, h6⟩ := h
  have c0 : w.cell? ⟨b, 0, none⟩ = some (.int .i64 fl) := (Blk.cell hb 0).trans rfl
  have c1 : w.cell? ⟨b, 1, none⟩ = some (.int .i64 rs) := (Blk.cell hb 1).trans rfl
  have c2 : w.cell? ⟨b, 2, none⟩ = some (.int .i64 hd) := (Blk.cell hb 2).trans rfl
  have c3 : w.cell? ⟨b, 3, none⟩ = some (.bool down) := (Blk.cell hb 3).trans rfl
  have c4 : w.cell? ⟨b, 4, none⟩ = some (.int .i64 rn) := (Blk.cell hb 4).trans rfl
  have c5 : w.cell? ⟨b, 5, none⟩ = some (.int .i64 ho) := (Blk.cell hb 5).trans rfl
  have f3 := Blk.frozen hb 3
  have f4 := Blk.frozen hb 4
  have f5 := Blk.frozen hb 5
  have HB := Lib.hid hb
  clear hb
  cases down <;> cases good
  · -- up, bad: the run goes on
    by_cases hf : rn + 1 = fl
    · subst hf
      go_enter Try.func51, Try.ntmps51
      go_wp2_with fail
      go_quiet (fail)
      go_wp2_with fail
      refine bodyPost_ret (results_none rfl _ _ _) rfl ?_
      have s1 := Blk.set_ HB.out 4 (.int .i64 (rn + 1))
      have s2 := Blk.set_ (Blk.drewN s1 nq) 3 (.bool true)
      have s3 := Blk.set_ s2 4 (.int .i64 0)
      have s4 := Blk.set_ s3 5 (.int .i64 hd)
      exact ⟨rfl, ⟨rn + 1, rs, hd, 0, hd, true, s4, by omega, by omega, by omega, by omega, h5, h6⟩, (((((Kept.refl _ _).put _).drewN _).put _).put _).put _⟩
    · have ef : (rn + 1 == fl) = false := by simpa using hf
      go_enter Try.func51, Try.ntmps51
      go_wp2_with fail
      go_quiet (fail)
      go_wp2_with fail
      go_quiet (fail)
      go_wp2_with fail
      go_end0
      have s1 := Blk.set_ HB.out 4 (.int .i64 (rn + 1))
      exact ⟨rfl, ⟨fl, rs, hd, rn + 1, ho, false, s1, by omega, by omega, h3, h4, h5, h6⟩, (((Kept.refl _ _).put _).drewN _).drewN _⟩
  · go_enter Try.func51, Try.ntmps51
    go_wp2_with fail
    refine bodyPost_ret (results_none rfl _ _ _) rfl ?_
    have s1 := Blk.set_ HB.out 4 (.int .i64 0)
    exact ⟨rfl, ⟨fl, rs, hd, 0, ho, false, s1, by omega, by omega, h3, h4, h5, h6⟩, (Kept.refl _ _).put _⟩
  · go_enter Try.func51, Try.ntmps51
    go_wp2_with fail
    refine bodyPost_ret (results_none rfl _ _ _) rfl ?_
    have s1 := Blk.set_ HB.out 4 (.int .i64 0)
    exact ⟨rfl, ⟨fl, rs, hd, 0, ho, true, s1, by omega, by omega, h3, h4, h5, h6⟩, (Kept.refl _ _).put _⟩
  · -- down, good
    by_cases hf : rs ≤ rn + 1
    · have ef : decide (rs ≤ rn + 1) = true := by simpa using hf
      by_cases hh : ho = 0
      · subst hh
        go_enter Try.func51, Try.ntmps51
        go_wp2_with fail
        go_quiet (fail)
        go_wp2_with fail
        go_quiet (fail)
        go_wp2_with fail
        go_end0
        have s1 := Blk.set_ HB.out 4 (.int .i64 (rn + 1))
        have s2 := Blk.set_ s1 3 (.bool false)
        have s3 := Blk.set_ s2 4 (.int .i64 0)
        exact ⟨rfl, ⟨fl, rs, hd, 0, 0, false, s3, by omega, by omega, by omega, by omega, h5, h6⟩, ((((Kept.refl _ _).put _).drewN _).put _).put _⟩
      · have eh : (ho == 0) = false := by simpa using hh
        go_enter Try.func51, Try.ntmps51
        go_wp2_with fail
        go_quiet (fail)
        go_wp2_with fail
        go_quiet (fail)
        go_wp2_with fail
        go_end0
        have s1 := Blk.set_ HB.out 4 (.int .i64 (rn + 1))
        exact ⟨rfl, ⟨fl, rs, hd, rn + 1, ho, true, s1, by omega, by omega, h3, h4, h5, h6⟩, (((Kept.refl _ _).put _).drewN _).drewN _⟩
    · have ef : decide (rs ≤ rn + 1) = false := by simpa using hf
      go_enter Try.func51, Try.ntmps51
      go_wp2_with fail
      go_quiet (fail)
      go_wp2_with fail
      go_quiet (fail)
      go_wp2_with fail
      go_end0
      have s1 := Blk.set_ HB.out 4 (.int .i64 (rn + 1))
      exact ⟨rfl, ⟨fl, rs, hd, rn + 1, ho, true, s1, by omega, by omega, h3, h4, h5, h6⟩, (((Kept.refl _ _).put _).drewN _).drewN _⟩
end Go.Proofs.Ytchgieogdinglaa
