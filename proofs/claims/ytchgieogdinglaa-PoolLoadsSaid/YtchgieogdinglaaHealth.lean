/- health.Model: what its methods do to its six numbers. -/
import Derived.Test.YtchgieogdinglaaBase
import Derived.Test.YtchgieogdinglaaProg
namespace Go.Proofs.Ytchgieogdinglaa
open Go.RowKit

/-- A model in block b. -/
def HM (w : World) (b : Nat) (fl rs hd st rn ho : Int) : Prop := Blk w b 76 #[.int .i64 fl, .int .i64 rs, .int .i64 hd, .int .i64 st, .int .i64 rn, .int .i64 ho]

section
variable {w : World} {b : Nat} {fl rs hd st rn ho : Int}
theorem HM.cells (h : HM w b fl rs hd st rn ho) : w.cell? ⟨b, 0, none⟩ = some (.int .i64 fl) ∧ w.cell? ⟨b, 1, none⟩ = some (.int .i64 rs) ∧ w.cell? ⟨b, 2, none⟩ = some (.int .i64 hd) ∧
    w.cell? ⟨b, 3, none⟩ = some (.int .i64 st) ∧ w.cell? ⟨b, 4, none⟩ = some (.int .i64 rn) ∧ w.cell? ⟨b, 5, none⟩ = some (.int .i64 ho) :=
  ⟨(Blk.cell h 0).trans rfl, (Blk.cell h 1).trans rfl, (Blk.cell h 2).trans rfl, (Blk.cell h 3).trans rfl, (Blk.cell h 4).trans rfl, (Blk.cell h 5).trans rfl⟩
end

set_option maxHeartbeats 400000 in
theorem health_none (b : Nat) (fl rs hd st rn ho : Int) (w : World) (h : HM w b fl rs hd st rn ho) (h0 : (fl == 0) = false) :
    Calls Try.prog 43 #[.pointer (some ⟨b, 0, none⟩)] w fun e w' => e = .returned (.bool false) ∧ w = w' := by
  obtain ⟨c0, c1, c2, c3, c4, c5⟩ := h.cells
  go_enter Try.func43, Try.ntmps43
  go_wp2
  go_ret
  exact ⟨rfl, rfl⟩

theorem health_none_nil (w : World) : Calls Try.prog 43 #[.pointer none] w fun e w' => e = .returned (.bool true) ∧ w = w' := by
  go_enter Try.func43, Try.ntmps43
  go_wp2
  go_ret
  exact ⟨rfl, rfl⟩

def holdOf (ho : Int) : Int := if ho = 0 then 0 else ho - 1
theorem holdOf_range {ho : Int} (h : 0 ≤ ho) : 0 ≤ holdOf ho ∧ holdOf ho ≤ ho := by unfold holdOf; split <;> omega

theorem HM.set5 {w : World} {b : Nat} {fl rs hd st rn ho : Int} (h : HM w b fl rs hd st rn ho) (v u : Int) (e : v = u) : HM (w.setCell ⟨b, 5, none⟩ (.int .i64 v)) b fl rs hd st rn u := by
  subst e
  exact Blk.set_ h 5 _
theorem HM.set4 {w : World} {b : Nat} {fl rs hd st rn ho : Int} (h : HM w b fl rs hd st rn ho) (v u : Int) (e : v = u) : HM (w.setCell ⟨b, 4, none⟩ (.int .i64 v)) b fl rs hd st u ho := by
  subst e
  exact Blk.set_ h 4 _
theorem HM.set3 {w : World} {b : Nat} {fl rs hd st rn ho : Int} (h : HM w b fl rs hd st rn ho) (v u : Int) (e : v = u) : HM (w.setCell ⟨b, 3, none⟩ (.int .i64 v)) b fl rs hd u rn ho := by
  subst e
  exact Blk.set_ h 3 _
theorem HM.drew {w : World} {b : Nat} {fl rs hd st rn ho : Int} (h : HM w b fl rs hd st rn ho) : HM w.drew b fl rs hd st rn ho := h
theorem HM.kept {F : Nat → Prop} {w w1 : World} {b : Nat} {fl rs hd st rn ho : Int} (h : HM w b fl rs hd st rn ho) (k : Kept F w w1) (hb : ¬ F b) : HM w1 b fl rs hd st rn ho := Blk.kept h k hb

set_option maxHeartbeats 400000 in
theorem health_Tick (b : Nat) (fl rs hd st rn ho : Int) (w : World) (h : HM w b fl rs hd st rn ho) (h0 : (fl == 0) = false) (h1 : 0 ≤ ho) (h2 : ho ≤ 1073741824) :
    Calls Try.prog 44 #[.pointer (some ⟨b, 0, none⟩)] w fun e w' => e = .returned (.int .i64 0) ∧ HM w' b fl rs hd st rn (holdOf ho) ∧ Kept (· = b) w w' := by
  obtain ⟨c0, c1, c2, c3, c4, c5⟩ := h.cells
  have hfz := Blk.frozen h 5
  go_enter Try.func44, Try.ntmps44
  go_wp2_with (go_at_call 43; refine (health_none b _ _ _ _ _ _ _ h h0).mono ?_; rintro e w' ⟨rfl, rfl⟩)
  all_goals
    go_ret
    exact ⟨rfl, HM.set5 ‹_› _ _ (by unfold holdOf; split <;> omega), (Kept.refl _ _).put _⟩

set_option maxHeartbeats 400000 in
theorem health_Up (b : Nat) (fl rs hd st rn ho : Int) (w : World) (h : HM w b fl rs hd st rn ho) (h0 : (fl == 0) = false) :
    Calls Try.prog 20 #[.pointer (some ⟨b, 0, none⟩)] w fun e w' => e = .returned (.bool (st == 0)) ∧ w = w' := by
  obtain ⟨c0, c1, c2, c3, c4, c5⟩ := h.cells
  go_enter Try.func20, Try.ntmps20
  go_wp2_with (go_at_call 43; refine (health_none b _ _ _ _ _ _ _ h h0).mono ?_; rintro e w' ⟨rfl, rfl⟩)
  go_ret
  exact ⟨rfl, rfl⟩

set_option maxHeartbeats 400000 in
theorem health_turn (b : Nat) (fl rs hd st rn ho s g : Int) (w : World) (h : HM w b fl rs hd st rn ho) :
    Calls Try.prog 56 #[.pointer (some ⟨b, 0, none⟩), .int .i64 s, .int .i64 g] w fun e w' => e = .returned (.tuple #[]) ∧ HM w' b fl rs hd s 0 g ∧ Kept (· = b) w w' := by
  obtain ⟨c0, c1, c2, c3, c4, c5⟩ := h.cells
  have f3 := Blk.frozen h 3
  have f4 := Blk.frozen h 4
  have f5 := Blk.frozen h 5
  go_enter Try.func56, Try.ntmps56
  go_wp2
  go_end0
  exact ⟨rfl, HM.set5 (HM.set4 (HM.set3 h _ _ rfl) _ _ rfl) _ _ rfl, (((Kept.refl _ _).put _).put _).put _⟩

/-- A probe's outcome: the new state, run, hold. -/
def probeOf (fl rs hd st rn ho : Int) (good : Bool) : Int × Int × Int :=
  if st = 0 then (if good then (0, 0, ho) else if rn + 1 = fl then (1, 0, hd) else (0, rn + 1, ho))
  else (if good then (if rs ≤ rn + 1 ∧ ho = 0 then (0, 0, 0) else (1, rn + 1, ho)) else (1, 0, ho))

theorem HM.drewN {w : World} {b : Nat} {fl rs hd st rn ho : Int} (h : HM w b fl rs hd st rn ho) (n : Nat) : HM (w.drewN n) b fl rs hd st rn ho := h
theorem probe_up_good (fl rs hd rn ho : Int) : probeOf fl rs hd 0 rn ho true = (0, 0, ho) := by simp [probeOf]
theorem probe_up_bad (fl rs hd rn ho : Int) (h : rn + 1 = fl) : probeOf fl rs hd 0 rn ho false = (1, 0, hd) := by simp [probeOf, h]
theorem probe_up_bad' (fl rs hd rn ho : Int) (h : ¬ rn + 1 = fl) : probeOf fl rs hd 0 rn ho false = (0, rn + 1, ho) := by simp [probeOf, h]
theorem probe_down_good (fl rs hd rn ho : Int) (h : rs ≤ rn + 1 ∧ ho = 0) : probeOf fl rs hd 1 rn ho true = (0, 0, 0) := by simp [probeOf, h]
theorem probe_down_good' (fl rs hd rn ho : Int) (h : ¬ (rs ≤ rn + 1 ∧ ho = 0)) : probeOf fl rs hd 1 rn ho true = (1, rn + 1, ho) := by unfold probeOf; rw [if_neg (by decide), if_pos rfl, if_neg h]
theorem probe_down_bad (fl rs hd rn ho : Int) : probeOf fl rs hd 1 rn ho false = (1, 0, ho) := by simp [probeOf]

/-- What a probe leaves. -/
def Probed (w : World) (b : Nat) (fl rs hd : Int) (r : Int × Int × Int) (e : Ending) (w' : World) : Prop := e = .returned (.int .i64 0) ∧ HM w' b fl rs hd r.1 r.2.1 r.2.2 ∧ Kept (· = b) w w'

set_option maxHeartbeats 1000000 in
theorem health_Probe_up_good (b : Nat) (fl rs hd rn ho : Int) (w : World) (h : HM w b fl rs hd 0 rn ho) (h0 : (fl == 0) = false) (r0 : 0 ≤ rn) (r1 : rn ≤ 1152921504606846976) :
    Calls Try.prog 50 #[.pointer (some ⟨b, 0, none⟩), .bool true] w (Probed w b fl rs hd (probeOf fl rs hd 0 rn ho true)) := by
  obtain ⟨c0, c1, c2, c3, c4, c5⟩ := h.cells
  have f4 := Blk.frozen h 4
  rw [probe_up_good]
  go_enter Try.func50, Try.ntmps50
  go_wp2_with (go_at_call 43; refine (health_none b _ _ _ _ _ _ _ h h0).mono ?_; rintro e w' ⟨rfl, rfl⟩)
  go_quiet (fail)
  go_wp2
  go_quiet (fail)
  go_wp2
  go_ret
  exact ⟨rfl, ((HM.set4 h _ _ rfl).drewN _).set4 _ _ rfl, (((Kept.refl _ _).put _).drewN _).put _⟩

set_option maxHeartbeats 1000000 in
theorem health_Probe_up_bad (b : Nat) (fl rs hd rn ho : Int) (w : World) (h : HM w b fl rs hd 0 rn ho) (h0 : (fl == 0) = false) (r0 : 0 ≤ rn) (r1 : rn ≤ 1152921504606846976) :
    Calls Try.prog 50 #[.pointer (some ⟨b, 0, none⟩), .bool false] w (Probed w b fl rs hd (probeOf fl rs hd 0 rn ho false)) := by
  obtain ⟨c0, c1, c2, c3, c4, c5⟩ := h.cells
  have f4 := Blk.frozen h 4
  by_cases hf : rn + 1 = fl
  · rw [probe_up_bad _ _ _ _ _ hf]
    subst hf
    go_enter Try.func50, Try.ntmps50
    go_wp2_with (go_at_call 43; refine (health_none b _ _ _ _ _ _ _ h h0).mono ?_; rintro e w' ⟨rfl, rfl⟩)
    go_quiet (fail)
    go_wp2_with (go_at_call 56; refine (health_turn b (rn + 1) rs hd 0 (rn + 1) ho 1 hd _ (by exact HM.set4 h (rn + 1) _ rfl)).mono ?_; rintro e w' ⟨rfl, hm, hk⟩)
    go_ret
    exact ⟨rfl, hm, (((Kept.refl _ _).put _).drewN _).trans' hk (fun _ _ x => x)⟩
  · rw [probe_up_bad' _ _ _ _ _ hf]
    have hd1 : (rn + 1 == fl) = false := by simpa using hf
    go_enter Try.func50, Try.ntmps50
    go_wp2_with (go_at_call 43; refine (health_none b _ _ _ _ _ _ _ h h0).mono ?_; rintro e w' ⟨rfl, rfl⟩)
    go_quiet (fail)
    go_wp2
    go_quiet (fail)
    go_wp2
    go_ret
    exact ⟨rfl, ((HM.set4 h _ _ rfl).drewN _).drewN _, (((Kept.refl _ _).put _).drewN _).drewN _⟩

set_option maxHeartbeats 1000000 in
theorem health_Probe_down_bad (b : Nat) (fl rs hd rn ho : Int) (w : World) (h : HM w b fl rs hd 1 rn ho) (h0 : (fl == 0) = false) (r0 : 0 ≤ rn) (r1 : rn ≤ 1152921504606846976) :
    Calls Try.prog 50 #[.pointer (some ⟨b, 0, none⟩), .bool false] w (Probed w b fl rs hd (probeOf fl rs hd 1 rn ho false)) := by
  obtain ⟨c0, c1, c2, c3, c4, c5⟩ := h.cells
  have f4 := Blk.frozen h 4
  rw [probe_down_bad]
  go_enter Try.func50, Try.ntmps50
  go_wp2_with (go_at_call 43; refine (health_none b _ _ _ _ _ _ _ h h0).mono ?_; rintro e w' ⟨rfl, rfl⟩)
  go_quiet (fail)
  go_wp2
  go_quiet (fail)
  go_wp2
  go_ret
  exact ⟨rfl, ((HM.set4 h _ _ rfl).drewN _).set4 _ _ rfl, (((Kept.refl _ _).put _).drewN _).put _⟩

set_option maxHeartbeats 1000000 in
theorem health_Probe_down_good (b : Nat) (fl rs hd rn ho : Int) (w : World) (h : HM w b fl rs hd 1 rn ho) (h0 : (fl == 0) = false) (r0 : 0 ≤ rn) (r1 : rn ≤ 1152921504606846976) :
    Calls Try.prog 50 #[.pointer (some ⟨b, 0, none⟩), .bool true] w (Probed w b fl rs hd (probeOf fl rs hd 1 rn ho true)) := by
  obtain ⟨c0, c1, c2, c3, c4, c5⟩ := h.cells
  have f4 := Blk.frozen h 4
  by_cases hf : rs ≤ rn + 1
  · have hg1 : decide (rs ≤ rn + 1) = true := by simpa using hf
    by_cases ho0 : ho = 0
    · rw [probe_down_good _ _ _ _ _ ⟨hf, ho0⟩]
      subst ho0
      go_enter Try.func50, Try.ntmps50
      go_wp2_with (go_at_call 43; refine (health_none b _ _ _ _ _ _ _ h h0).mono ?_; rintro e w' ⟨rfl, rfl⟩)
      go_quiet (fail)
      go_wp2
      go_quiet (fail)
      go_wp2_with (go_at_call 56; refine (health_turn b fl rs hd 1 (rn + 1) 0 0 0 _ (by exact HM.set4 h (rn + 1) _ rfl)).mono ?_; rintro e w' ⟨rfl, hm, hk⟩)
      go_ret
      exact ⟨rfl, hm, (((Kept.refl _ _).put _).drewN _).trans' hk (fun _ _ x => x)⟩
    · rw [probe_down_good' _ _ _ _ _ (fun x => ho0 x.2)]
      have hg2 : (ho == 0) = false := by simpa using ho0
      go_enter Try.func50, Try.ntmps50
      go_wp2_with (go_at_call 43; refine (health_none b _ _ _ _ _ _ _ h h0).mono ?_; rintro e w' ⟨rfl, rfl⟩)
      go_quiet (fail)
      go_wp2
      go_quiet (fail)
      go_wp2
      go_ret
      exact ⟨rfl, ((HM.set4 h _ _ rfl).drewN _).drewN _, (((Kept.refl _ _).put _).drewN _).drewN _⟩
  · rw [probe_down_good' _ _ _ _ _ (fun x => hf x.1)]
    have hg1 : decide (rs ≤ rn + 1) = false := by simpa using hf
    go_enter Try.func50, Try.ntmps50
    go_wp2_with (go_at_call 43; refine (health_none b _ _ _ _ _ _ _ h h0).mono ?_; rintro e w' ⟨rfl, rfl⟩)
    go_quiet (fail)
    go_wp2
    go_quiet (fail)
    go_wp2
    go_ret
    exact ⟨rfl, ((HM.set4 h _ _ rfl).drewN _).drewN _, (((Kept.refl _ _).put _).drewN _).drewN _⟩

theorem health_Probe (b : Nat) (fl rs hd st rn ho : Int) (good : Bool) (w : World) (h : HM w b fl rs hd st rn ho) (h0 : (fl == 0) = false) (hs : st = 0 ∨ st = 1) (r0 : 0 ≤ rn) (r1 : rn ≤ 1152921504606846976) :
    Calls Try.prog 50 #[.pointer (some ⟨b, 0, none⟩), .bool good] w (Probed w b fl rs hd (probeOf fl rs hd st rn ho good)) := by
  rcases hs with rfl | rfl <;> cases good
  · exact health_Probe_up_bad b fl rs hd rn ho w h h0 r0 r1
  · exact health_Probe_up_good b fl rs hd rn ho w h h0 r0 r1
  · exact health_Probe_down_bad b fl rs hd rn ho w h h0 r0 r1
  · exact health_Probe_down_good b fl rs hd rn ho w h h0 r0 r1

/-- May these be a model's three numbers? -/
def HealthOk (fl rs hd : Int) : Prop := 1 ≤ fl ∧ fl ≤ 1000 ∧ 1 ≤ rs ∧ rs ≤ 1000 ∧ 0 ≤ hd ∧ hd ≤ 1073741824

def Made (w : World) (fl rs hd : Int) (e : Ending) (w' : World) : Prop := ∃ b, e = .returned (.tuple #[.pointer (some ⟨b, 0, none⟩), .int .i64 0]) ∧ w.heap.size ≤ b ∧ HM w' b fl rs hd 0 0 0 ∧ Kept (fun _ => False) w w'

set_option maxHeartbeats 1000000 in
theorem health_New (fl rs hd : Int) (w : World) (h : HealthOk fl rs hd) :
    Calls Try.prog 12 #[.agg #[.int .i64 fl, .int .i64 rs, .int .i64 hd]] w (Made w fl rs hd) := by
  obtain ⟨a1, a2, a3, a4, a5, a6⟩ := h
  go_enter Try.func12, Try.ntmps12
  go_wp2
  go_ret2
  exact ⟨_, rfl, by simp, Blk.new' _ _ _ (by simp), ((Kept.refl _ _).alloc _).alloc _⟩
end Go.Proofs.Ytchgieogdinglaa
