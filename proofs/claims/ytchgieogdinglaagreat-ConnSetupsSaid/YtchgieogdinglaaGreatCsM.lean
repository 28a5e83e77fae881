/- ConnSetups: a connection is made. -/
import Derived.Test.YtchgieogdinglaaGreatCsL
import Derived.Deep.DeepCutAuto
set_option linter.unusedSimpArgs false
set_option linter.unusedVariables false
namespace Go.Proofs.YtchgieogdinglaaGreat
open Go.RowKit
open Ser

theorem conn_within_b {n lo hi : Int} {b : Bool} (h : decide (lo ≤ n ∧ n ≤ hi) = b) (w : World) : Calls Tryz.prog 10 #[.int .i64 n, .int .i64 lo, .int .i64 hi] w fun e w' => e = .returned (.bool b) ∧ w = w' :=
  (conn_within n lo hi w).mono fun e w' ⟨h1, h2⟩ => ⟨by rw [h1, h], h2⟩

/-- Whether a setup may be. -/
def May (st wi fr li ta qu : Int) : Prop := (0 ≤ st ∧ st ≤ 1024) ∧ (0 ≤ wi ∧ wi ≤ 2147483647) ∧ (16384 ≤ fr ∧ fr ≤ 16777215) ∧ (0 ≤ li ∧ li ≤ 2147483647) ∧ (0 ≤ ta ∧ ta ≤ 65536) ∧ (0 ≤ qu ∧ qu ≤ 1048576)

def NotMade (w : World) (e : Ending) (w' : World) : Prop := e = .returned (.tuple #[.pointer none, .int .i64 1]) ∧ Kept (fun _ => False) w w'
set_option maxHeartbeats 2000000 in
set_option maxRecDepth 100000 in
theorem conn_New_not (sv : Bool) (st wi fr li ta qu : Int) (w : World) (h : ¬ May st wi fr li ta qu) :
    Calls Tryz.prog 4 #[.agg #[.bool sv, .int .i64 st, .int .i64 wi, .int .i64 fr, .int .i64 li, .int .i64 ta, .int .i64 qu]] w (NotMade w) := by
  unfold May at h
  have H := Lib.hid h
  clear h
  by_cases h1 : 0 ≤ st ∧ st ≤ 1024
  · have e1 := Lib.hid (decide_eq_true h1)
    by_cases h2 : 0 ≤ wi ∧ wi ≤ 2147483647
    · have e2 := Lib.hid (decide_eq_true h2)
      by_cases h3 : 16384 ≤ fr ∧ fr ≤ 16777215
      · have e3 := Lib.hid (decide_eq_true h3)
        by_cases h4 : 0 ≤ li ∧ li ≤ 2147483647
        · have e4 := Lib.hid (decide_eq_true h4)
          by_cases h5 : 0 ≤ ta ∧ ta ≤ 65536
          · have e5 := Lib.hid (decide_eq_true h5)
            have h6 : ¬ (0 ≤ qu ∧ qu ≤ 1048576) := fun h6 => H.out ⟨h1, h2, h3, h4, h5, h6⟩
            have e6 := Lib.hid (decide_eq_false h6)
            clear h1 h2 h3 h4 h5 h6 H
            go_enter Tryz.func4, Tryz.ntmps4
            go_wp2_with fail
            refine (conn_within_b e1.out _).mono ?_
            rintro e w' ⟨rfl, rfl⟩
            go_wp2_with fail
            refine (conn_within_b e2.out _).mono ?_
            rintro e w' ⟨rfl, rfl⟩
            go_wp2_with fail
            refine (conn_within_b e3.out _).mono ?_
            rintro e w' ⟨rfl, rfl⟩
            go_wp2_with fail
            refine (conn_within_b e4.out _).mono ?_
            rintro e w' ⟨rfl, rfl⟩
            go_wp2_with fail
            refine (conn_within_b e5.out _).mono ?_
            rintro e w' ⟨rfl, rfl⟩
            go_wp2_with fail
            refine (conn_within_b e6.out _).mono ?_
            rintro e w' ⟨rfl, rfl⟩
            go_wp2_with fail
            go_ret2
            exact ⟨rfl, (Kept.refl _ _).alloc _⟩
          · have e5 := Lib.hid (decide_eq_false h5)
            clear h1 h2 h3 h4 h5 H
            go_enter Tryz.func4, Tryz.ntmps4
            go_wp2_with fail
            refine (conn_within_b e1.out _).mono ?_
            rintro e w' ⟨rfl, rfl⟩
            go_wp2_with fail
            refine (conn_within_b e2.out _).mono ?_
            rintro e w' ⟨rfl, rfl⟩
            go_wp2_with fail
            refine (conn_within_b e3.out _).mono ?_
            rintro e w' ⟨rfl, rfl⟩
            go_wp2_with fail
            refine (conn_within_b e4.out _).mono ?_
            rintro e w' ⟨rfl, rfl⟩
            go_wp2_with fail
            refine (conn_within_b e5.out _).mono ?_
            rintro e w' ⟨rfl, rfl⟩
            go_wp2_with fail
            go_ret2
            exact ⟨rfl, (Kept.refl _ _).alloc _⟩
        · have e4 := Lib.hid (decide_eq_false h4)
          clear h1 h2 h3 h4 H
          go_enter Tryz.func4, Tryz.ntmps4
          go_wp2_with fail
          refine (conn_within_b e1.out _).mono ?_
          rintro e w' ⟨rfl, rfl⟩
          go_wp2_with fail
          refine (conn_within_b e2.out _).mono ?_
          rintro e w' ⟨rfl, rfl⟩
          go_wp2_with fail
          refine (conn_within_b e3.out _).mono ?_
          rintro e w' ⟨rfl, rfl⟩
          go_wp2_with fail
          refine (conn_within_b e4.out _).mono ?_
          rintro e w' ⟨rfl, rfl⟩
          go_wp2_with fail
          go_ret2
          exact ⟨rfl, (Kept.refl _ _).alloc _⟩
      · have e3 := Lib.hid (decide_eq_false h3)
        clear h1 h2 h3 H
        go_enter Tryz.func4, Tryz.ntmps4
        go_wp2_with fail
        refine (conn_within_b e1.out _).mono ?_
        rintro e w' ⟨rfl, rfl⟩
        go_wp2_with fail
        refine (conn_within_b e2.out _).mono ?_
        rintro e w' ⟨rfl, rfl⟩
        go_wp2_with fail
        refine (conn_within_b e3.out _).mono ?_
        rintro e w' ⟨rfl, rfl⟩
        go_wp2_with fail
        go_ret2
        exact ⟨rfl, (Kept.refl _ _).alloc _⟩
    · have e2 := Lib.hid (decide_eq_false h2)
      clear h1 h2 H
      go_enter Tryz.func4, Tryz.ntmps4
      go_wp2_with fail
      refine (conn_within_b e1.out _).mono ?_
      rintro e w' ⟨rfl, rfl⟩
      go_wp2_with fail
      refine (conn_within_b e2.out _).mono ?_
      rintro e w' ⟨rfl, rfl⟩
      go_wp2_with fail
      go_ret2
      exact ⟨rfl, (Kept.refl _ _).alloc _⟩
  · have e1 := Lib.hid (decide_eq_false h1)
    clear h1 H
    go_enter Tryz.func4, Tryz.ntmps4
    go_wp2_with fail
    refine (conn_within_b e1.out _).mono ?_
    rintro e w' ⟨rfl, rfl⟩
    go_wp2_with fail
    go_ret2
    exact ⟨rfl, (Kept.refl _ _).alloc _⟩
end Go.Proofs.YtchgieogdinglaaGreat
