/- ConnSetups: what makes the parts of a connection. -/
import Derived.Test.YtchgieogdinglaaGreatProg
import Derived.Test.YtchgieogdinglaaGreatSer2
import Derived.Test.YtchgieogdinglaaGreatPush
import Derived.Test.YtchgieogdinglaaGreatRowS
set_option linter.unusedSimpArgs false
set_option linter.unusedVariables false
namespace Go.Proofs.YtchgieogdinglaaGreat
open Go.RowKit
open Ser

/-- A pointer to something new, and no error. -/
def MadeP (w : World) (e : Ending) (w' : World) : Prop := ∃ b, e = .returned (.tuple #[.pointer (some ⟨b, 0, none⟩), .int .i64 0]) ∧ w.heap.size ≤ b ∧ Kept (fun _ => False) w w'

theorem conn_within (n lo hi : Int) (w : World) : Calls Tryz.prog 10 #[.int .i64 n, .int .i64 lo, .int .i64 hi] w fun e w' => e = .returned (.bool (decide (lo ≤ n ∧ n ≤ hi))) ∧ w = w' := by
  by_cases h0 : lo ≤ n
  · have g0 : decide (lo ≤ n) = true := by simpa using h0
    by_cases h1 : n ≤ hi
    · have g1 : decide (n ≤ hi) = true := by simpa using h1
      go_enter Tryz.func10, Tryz.ntmps10
      go_wp2_with fail
      go_ret
      exact ⟨by simp [h0, h1], rfl⟩
    · have g1 : decide (n ≤ hi) = false := by simpa using h1
      go_enter Tryz.func10, Tryz.ntmps10
      go_wp2_with fail
      go_ret
      exact ⟨by simp [h1], rfl⟩
  · have g0 : decide (lo ≤ n) = false := by simpa using h0
    go_enter Tryz.func10, Tryz.ntmps10
    go_wp2_with fail
    go_ret
    exact ⟨by simp [h0], rfl⟩

theorem reader_New (n : Int) (w : World) (h0 : 16384 ≤ n) (h1 : n ≤ 16777215) : Calls Tryz.prog 12 #[.int .i64 n] w (MadeP w) := by
  have g0 : decide (n < 16384) = false := by simp; omega
  have g1 : decide (16777215 < n) = false := by simp; omega
  go_enter Tryz.func12, Tryz.ntmps12
  go_wp2_with fail
  go_ret2
  exact ⟨_, rfl, Nat.le_refl _, (Kept.refl _ _).alloc _⟩
theorem block_New (w : World) : Calls Tryz.prog 13 #[.int .i64 65536] w (MadeP w) := by
  go_enter Tryz.func13, Tryz.ntmps13
  go_wp2_with fail
  go_ret2
  exact ⟨_, rfl, Nat.le_refl _, (Kept.refl _ _).alloc _⟩
theorem table_may (n : Int) (w : World) (h0 : 0 ≤ n) (h1 : n ≤ 65536) : Calls Tryz.prog 46 #[.int .i64 n] w fun e w' => e = .returned (.bool true) ∧ w = w' := by
  have g0 : decide (0 ≤ n) = true := by simpa using h0
  have g1 : decide (n ≤ 65536) = true := by simpa using h1
  go_enter Tryz.func46, Tryz.ntmps46
  go_wp2_with fail
  go_ret
  exact ⟨rfl, rfl⟩
theorem table_New (n : Int) (w : World) (h0 : 0 ≤ n) (h1 : n ≤ 65536) : Calls Tryz.prog 31 #[.int .i64 n] w (MadeP w) := by
  go_enter Tryz.func31, Tryz.ntmps31
  go_wp2_with (go_at_call 46; refine (table_may n _ h0 h1).mono ?_; rintro e w' ⟨rfl, rfl⟩)
  go_ret2
  exact ⟨_, rfl, Nat.le_refl _, (Kept.refl _ _).alloc _⟩
theorem hpack_NewDecoder (n l : Int) (w : World) (h0 : 0 ≤ n) (h1 : n ≤ 65536) (h2 : 0 ≤ l) : Calls Tryz.prog 14 #[.int .i64 n, .int .i64 l] w (MadeP w) := by
  have g0 : decide (l < 0) = false := by simpa using h2
  go_enter Tryz.func14, Tryz.ntmps14
  go_wp2_with (go_at_call 31; refine (table_New n _ h0 h1).mono ?_; rintro e w1 ⟨b, rfl, hb, hk⟩; have HK := Lib.hid hk; have hsz := hk.size; clear hk)
  go_ret2
  exact ⟨_, rfl, hsz, HK.out.alloc _⟩
theorem hpack_NewEncoder (w : World) : Calls Tryz.prog 15 #[.int .i64 4096] w (MadeP w) := by
  go_enter Tryz.func15, Tryz.ntmps15
  go_wp2_with (go_at_call 31; refine (table_New 4096 _ (by omega) (by omega)).mono ?_; rintro e w1 ⟨b, rfl, hb, hk⟩; have HK := Lib.hid hk; have hsz := hk.size; clear hk)
  go_ret2
  exact ⟨_, rfl, hsz, HK.out.alloc _⟩
theorem stream_New (s : Bool) (n : Int) (w : World) (h0 : 0 ≤ n) (h1 : n ≤ 1024) : Calls Tryz.prog 16 #[.bool s, .int .i64 n] w (MadeP w) := by
  have g0 : decide (n < 0) = false := by simpa using h0
  have g1 : decide (1024 < n) = false := by simpa using h1
  have hmm := @run_makeMap Tryz.prog
  go_enter Tryz.func16, Tryz.ntmps16
  go_wp2_with fail
  go_ret2
  exact ⟨_, rfl, by simp, ((Kept.refl _ _).alloc _).alloc _⟩
theorem window_between (n : Int) (w : World) (g : Nat) (hc : w.cell? ⟨g, 0, none⟩ = some (.int .i64 n)) (h0 : 0 ≤ n) (h1 : n ≤ 2147483647) :
    Calls Tryz.prog 32 #[.int .i64 0, .int .i64 2147483647, .slice (some ⟨g, 0, none⟩) 1 1] w fun e w' => e = .returned (.bool true) ∧ w = w' := by
  have g0 : decide (n < 0) = false := by simpa using h0
  have g1 : decide (2147483647 < n) = false := by simpa using h1
  go_enter Tryz.func32, Tryz.ntmps32
  go_wp2_with fail
  go_loop [11] (fun i => ∃ k : Nat, k ≤ 1 ∧ i = .int .i64 k) (fun i => 1 - (intOf i).toNat)
  case atStart => exact ⟨0, by omega, rfl⟩
  case round =>
    obtain ⟨k, hk, rfl⟩ := hrel
    rcases Nat.lt_or_ge k 1 with h | h
    · obtain rfl : k = 0 := by omega
      clear h hk
      go_wp2_with fail
      go_round
      case rel => exact ⟨1, by omega, rfl⟩
      case measure => simp [intOf]
    · obtain rfl : k = 1 := by omega
      clear h hk
      go_wp2_with fail
      go_ret
      exact ⟨rfl, rfl⟩
theorem window_New (w : World) : Calls Tryz.prog 17 #[.int .i64 65535] w (MadeP w) := by
  have hb := fun W : World => window_between 65535 (W.alloc (.cells #[.int .i64 65535] 3)) W.heap.size ((Blk.cell (Blk.new W 3 #[.int .i64 65535]) 0).trans rfl) (by omega) (by omega)
  have HB := Lib.hid hb
  clear hb
  go_enter Tryz.func17, Tryz.ntmps17
  go_wp2_with (go_at_call 32; refine (HB.out _).mono ?_; rintro e w' ⟨rfl, rfl⟩)
  go_ret2
  exact ⟨_, rfl, by simp, ((Kept.refl _ _).alloc _).alloc _⟩
theorem window_NewCredit (w : World) : Calls Tryz.prog 18 #[.int .i64 65535] w (MadeP w) := by
  have hb := fun W : World => window_between 65535 (W.alloc (.cells #[.int .i64 65535] 3)) W.heap.size ((Blk.cell (Blk.new W 3 #[.int .i64 65535]) 0).trans rfl) (by omega) (by omega)
  have HB := Lib.hid hb
  clear hb
  go_enter Tryz.func18, Tryz.ntmps18
  go_wp2_with (go_at_call 32; refine (HB.out _).mono ?_; rintro e w' ⟨rfl, rfl⟩)
  go_ret2
  exact ⟨_, rfl, by simp, ((Kept.refl _ _).alloc _).alloc _⟩
end Go.Proofs.YtchgieogdinglaaGreat
