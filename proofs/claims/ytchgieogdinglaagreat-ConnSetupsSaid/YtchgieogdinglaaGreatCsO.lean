/- ConnSetups: the law. -/
import Derived.Test.YtchgieogdinglaaGreatCsN
set_option linter.unusedSimpArgs false
set_option linter.unusedVariables false
namespace Go.Proofs.YtchgieogdinglaaGreat
open Go.RowKit
open Ser

theorem law_Plain (w : World) : Calls Tryz.prog 20 #[.bool false] w fun e w' => e = .returned (.agg #[.bool false, .int .i64 5, .int .i64 1000, .int .i64 16384, .int .i64 4000, .int .i64 4096, .int .i64 300]) ∧ Kept (fun _ => False) w w' := by
  go_enter Tryz.func20, Tryz.ntmps20
  go_wp2_with fail
  refine bodyPost_ret (v := .agg #[.bool false, .int .i64 5, .int .i64 1000, .int .i64 16384, .int .i64 4000, .int .i64 4096, .int .i64 300]) (by simp [results, Tryz.results20, go_sem]) rfl ⟨rfl, (Kept.refl _ _).alloc _⟩

def LawDone (w : World) (e : Ending) (w' : World) : Prop := e = .returned (.bool true) ∧ Kept (fun _ => False) w w'
set_option maxRecDepth 100000 in
theorem law_awake (w : World) : Calls Tryz.prog 5 #[] w (LawDone w) := by
  go_enter Tryz.func5, Tryz.ntmps5
  go_wp2_with fail
  refine (law_Plain _).mono ?_
  rintro e w1 ⟨rfl, k1⟩
  have HK1 := Lib.hid k1
  clear k1
  go_wp2_with fail
  refine (conn_New false 5 1000 16384 4000 4096 300 _ (by unfold May; omega) 25 rfl).mono ?_
  rintro e w2 ⟨cb, cs, sv, pin, mb, wv, n, ys, rfl, hat, k2⟩
  have HK2 := Lib.hid (HK1.out.trans k2)
  have HAT := Lib.hid hat
  have hn : decide (24 < n) = true := by have := hat.l; simp; omega
  have hn' : decide ((24 : Int) < (n : Int)) = true := by have := hat.l; simp; omega
  clear k2 hat
  go_wp2_with fail
  refine (conn_Waiting HAT.out).mono ?_
  rintro e w3 ⟨rfl, k3⟩
  have HK3 := Lib.hid (HK2.out.trans k3)
  have HAT3 := Lib.hid (HAT.out.kept k3)
  clear k3
  go_wp2_with fail
  refine (conn_Failed HAT3.out).mono ?_
  rintro e w' ⟨rfl, rfl⟩
  go_wp2_with fail
  go_ret
  exact ⟨rfl, HK3.out⟩

set_option maxHeartbeats 1000000 in
set_option maxRecDepth 100000 in
theorem law_not0 (sv : Bool) (st wi fr li ta qu : Int) (w : World)  (g0 : decide (0 ≤ st) = false) :
    Calls Tryz.prog 3 #[.agg #[.bool sv, .int .i64 st, .int .i64 wi, .int .i64 fr, .int .i64 li, .int .i64 ta, .int .i64 qu]] w (LawDone w) := by
  have hnot : ¬ May st wi fr li ta qu := by
    unfold May
    have := of_decide_eq_false g0
    omega
  have bT := Blk.new w 23 #[.bool sv, .int .i64 st, .int .i64 wi, .int .i64 fr, .int .i64 li, .int .i64 ta, .int .i64 qu]
  have hnew := conn_New_not sv st wi fr li ta qu (w.alloc (.cells #[.bool sv, .int .i64 st, .int .i64 wi, .int .i64 fr, .int .i64 li, .int .i64 ta, .int .i64 qu] 23)) hnot
  have HNEW := Lib.hid hnew
  have HBT := Lib.hid bT
  clear hnot hnew bT
  go_enter Tryz.func3, Tryz.ntmps3
  go_wp2_with fail
  refine HNEW.out.mono ?_
  rintro e w1 ⟨rfl, k1⟩
  have bT1 := HBT.out.kept k1 (fun x => x)
  have t0 : w1.cell? ⟨w.heap.size, 0, none⟩ = some (.bool sv) := (Blk.cell bT1 0).trans rfl
  have t1 : w1.cell? ⟨w.heap.size, 1, none⟩ = some (.int .i64 st) := (Blk.cell bT1 1).trans rfl
  have t2 : w1.cell? ⟨w.heap.size, 2, none⟩ = some (.int .i64 wi) := (Blk.cell bT1 2).trans rfl
  have t3 : w1.cell? ⟨w.heap.size, 3, none⟩ = some (.int .i64 fr) := (Blk.cell bT1 3).trans rfl
  have t4 : w1.cell? ⟨w.heap.size, 4, none⟩ = some (.int .i64 li) := (Blk.cell bT1 4).trans rfl
  have t5 : w1.cell? ⟨w.heap.size, 5, none⟩ = some (.int .i64 ta) := (Blk.cell bT1 5).trans rfl
  have t6 : w1.cell? ⟨w.heap.size, 6, none⟩ = some (.int .i64 qu) := (Blk.cell bT1 6).trans rfl
  have HK1 := Lib.hid (((Kept.refl _ _).alloc _).trans k1)
  clear k1 bT1
  go_wp2_with fail
  refine (law_awake _).mono ?_
  rintro e w2 ⟨rfl, k2⟩
  have HK2 := Lib.hid k2
  clear k2
  go_wp2_with fail
  go_ret
  exact ⟨rfl, HK1.out.trans HK2.out⟩
set_option maxHeartbeats 1000000 in
set_option maxRecDepth 100000 in
theorem law_not1 (sv : Bool) (st wi fr li ta qu : Int) (w : World) (g0 : decide (0 ≤ st) = true) (g1 : decide (st ≤ 1024) = false) :
    Calls Tryz.prog 3 #[.agg #[.bool sv, .int .i64 st, .int .i64 wi, .int .i64 fr, .int .i64 li, .int .i64 ta, .int .i64 qu]] w (LawDone w) := by
  have hnot : ¬ May st wi fr li ta qu := by
    unfold May
    have := of_decide_eq_false g1
    omega
  have bT := Blk.new w 23 #[.bool sv, .int .i64 st, .int .i64 wi, .int .i64 fr, .int .i64 li, .int .i64 ta, .int .i64 qu]
  have hnew := conn_New_not sv st wi fr li ta qu (w.alloc (.cells #[.bool sv, .int .i64 st, .int .i64 wi, .int .i64 fr, .int .i64 li, .int .i64 ta, .int .i64 qu] 23)) hnot
  have HNEW := Lib.hid hnew
  have HBT := Lib.hid bT
  clear hnot hnew bT
  go_enter Tryz.func3, Tryz.ntmps3
  go_wp2_with fail
  refine HNEW.out.mono ?_
  rintro e w1 ⟨rfl, k1⟩
  have bT1 := HBT.out.kept k1 (fun x => x)
  have t0 : w1.cell? ⟨w.heap.size, 0, none⟩ = some (.bool sv) := (Blk.cell bT1 0).trans rfl
  have t1 : w1.cell? ⟨w.heap.size, 1, none⟩ = some (.int .i64 st) := (Blk.cell bT1 1).trans rfl
  have t2 : w1.cell? ⟨w.heap.size, 2, none⟩ = some (.int .i64 wi) := (Blk.cell bT1 2).trans rfl
  have t3 : w1.cell? ⟨w.heap.size, 3, none⟩ = some (.int .i64 fr) := (Blk.cell bT1 3).trans rfl
  have t4 : w1.cell? ⟨w.heap.size, 4, none⟩ = some (.int .i64 li) := (Blk.cell bT1 4).trans rfl
  have t5 : w1.cell? ⟨w.heap.size, 5, none⟩ = some (.int .i64 ta) := (Blk.cell bT1 5).trans rfl
  have t6 : w1.cell? ⟨w.heap.size, 6, none⟩ = some (.int .i64 qu) := (Blk.cell bT1 6).trans rfl
  have HK1 := Lib.hid (((Kept.refl _ _).alloc _).trans k1)
  clear k1 bT1
  go_wp2_with fail
  refine (law_awake _).mono ?_
  rintro e w2 ⟨rfl, k2⟩
  have HK2 := Lib.hid k2
  clear k2
  go_wp2_with fail
  go_ret
  exact ⟨rfl, HK1.out.trans HK2.out⟩
set_option maxHeartbeats 1000000 in
set_option maxRecDepth 100000 in
theorem law_not2 (sv : Bool) (st wi fr li ta qu : Int) (w : World) (g0 : decide (0 ≤ st) = true) (g1 : decide (st ≤ 1024) = true) (g2 : decide (0 ≤ wi) = false) :
    Calls Tryz.prog 3 #[.agg #[.bool sv, .int .i64 st, .int .i64 wi, .int .i64 fr, .int .i64 li, .int .i64 ta, .int .i64 qu]] w (LawDone w) := by
  have hnot : ¬ May st wi fr li ta qu := by
    unfold May
    have := of_decide_eq_false g2
    omega
  have bT := Blk.new w 23 #[.bool sv, .int .i64 st, .int .i64 wi, .int .i64 fr, .int .i64 li, .int .i64 ta, .int .i64 qu]
  have hnew := conn_New_not sv st wi fr li ta qu (w.alloc (.cells #[.bool sv, .int .i64 st, .int .i64 wi, .int .i64 fr, .int .i64 li, .int .i64 ta, .int .i64 qu] 23)) hnot
  have HNEW := Lib.hid hnew
  have HBT := Lib.hid bT
  clear hnot hnew bT
  go_enter Tryz.func3, Tryz.ntmps3
  go_wp2_with fail
  refine HNEW.out.mono ?_
  rintro e w1 ⟨rfl, k1⟩
  have bT1 := HBT.out.kept k1 (fun x => x)
  have t0 : w1.cell? ⟨w.heap.size, 0, none⟩ = some (.bool sv) := (Blk.cell bT1 0).trans rfl
  have t1 : w1.cell? ⟨w.heap.size, 1, none⟩ = some (.int .i64 st) := (Blk.cell bT1 1).trans rfl
  have t2 : w1.cell? ⟨w.heap.size, 2, none⟩ = some (.int .i64 wi) := (Blk.cell bT1 2).trans rfl
  have t3 : w1.cell? ⟨w.heap.size, 3, none⟩ = some (.int .i64 fr) := (Blk.cell bT1 3).trans rfl
  have t4 : w1.cell? ⟨w.heap.size, 4, none⟩ = some (.int .i64 li) := (Blk.cell bT1 4).trans rfl
  have t5 : w1.cell? ⟨w.heap.size, 5, none⟩ = some (.int .i64 ta) := (Blk.cell bT1 5).trans rfl
  have t6 : w1.cell? ⟨w.heap.size, 6, none⟩ = some (.int .i64 qu) := (Blk.cell bT1 6).trans rfl
  have HK1 := Lib.hid (((Kept.refl _ _).alloc _).trans k1)
  clear k1 bT1
  go_wp2_with fail
  refine (law_awake _).mono ?_
  rintro e w2 ⟨rfl, k2⟩
  have HK2 := Lib.hid k2
  clear k2
  go_wp2_with fail
  go_ret
  exact ⟨rfl, HK1.out.trans HK2.out⟩
set_option maxHeartbeats 1000000 in
set_option maxRecDepth 100000 in
theorem law_not3 (sv : Bool) (st wi fr li ta qu : Int) (w : World) (g0 : decide (0 ≤ st) = true) (g1 : decide (st ≤ 1024) = true) (g2 : decide (0 ≤ wi) = true) (g3 : decide (wi ≤ 2147483647) = false) :
    Calls Tryz.prog 3 #[.agg #[.bool sv, .int .i64 st, .int .i64 wi, .int .i64 fr, .int .i64 li, .int .i64 ta, .int .i64 qu]] w (LawDone w) := by
  have hnot : ¬ May st wi fr li ta qu := by
    unfold May
    have := of_decide_eq_false g3
    omega
  have bT := Blk.new w 23 #[.bool sv, .int .i64 st, .int .i64 wi, .int .i64 fr, .int .i64 li, .int .i64 ta, .int .i64 qu]
  have hnew := conn_New_not sv st wi fr li ta qu (w.alloc (.cells #[.bool sv, .int .i64 st, .int .i64 wi, .int .i64 fr, .int .i64 li, .int .i64 ta, .int .i64 qu] 23)) hnot
  have HNEW := Lib.hid hnew
  have HBT := Lib.hid bT
  clear hnot hnew bT
  go_enter Tryz.func3, Tryz.ntmps3
  go_wp2_with fail
  refine HNEW.out.mono ?_
  rintro e w1 ⟨rfl, k1⟩
  have bT1 := HBT.out.kept k1 (fun x => x)
  have t0 : w1.cell? ⟨w.heap.size, 0, none⟩ = some (.bool sv) := (Blk.cell bT1 0).trans rfl
  have t1 : w1.cell? ⟨w.heap.size, 1, none⟩ = some (.int .i64 st) := (Blk.cell bT1 1).trans rfl
  have t2 : w1.cell? ⟨w.heap.size, 2, none⟩ = some (.int .i64 wi) := (Blk.cell bT1 2).trans rfl
  have t3 : w1.cell? ⟨w.heap.size, 3, none⟩ = some (.int .i64 fr) := (Blk.cell bT1 3).trans rfl
  have t4 : w1.cell? ⟨w.heap.size, 4, none⟩ = some (.int .i64 li) := (Blk.cell bT1 4).trans rfl
  have t5 : w1.cell? ⟨w.heap.size, 5, none⟩ = some (.int .i64 ta) := (Blk.cell bT1 5).trans rfl
  have t6 : w1.cell? ⟨w.heap.size, 6, none⟩ = some (.int .i64 qu) := (Blk.cell bT1 6).trans rfl
  have HK1 := Lib.hid (((Kept.refl _ _).alloc _).trans k1)
  clear k1 bT1
  go_wp2_with fail
  refine (law_awake _).mono ?_
  rintro e w2 ⟨rfl, k2⟩
  have HK2 := Lib.hid k2
  clear k2
  go_wp2_with fail
  go_ret
  exact ⟨rfl, HK1.out.trans HK2.out⟩
set_option maxHeartbeats 1000000 in
set_option maxRecDepth 100000 in
theorem law_not4 (sv : Bool) (st wi fr li ta qu : Int) (w : World) (g0 : decide (0 ≤ st) = true) (g1 : decide (st ≤ 1024) = true) (g2 : decide (0 ≤ wi) = true) (g3 : decide (wi ≤ 2147483647) = true) (g4 : decide (16384 ≤ fr) = false) :
    Calls Tryz.prog 3 #[.agg #[.bool sv, .int .i64 st, .int .i64 wi, .int .i64 fr, .int .i64 li, .int .i64 ta, .int .i64 qu]] w (LawDone w) := by
  have hnot : ¬ May st wi fr li ta qu := by
    unfold May
    have := of_decide_eq_false g4
    omega
  have bT := Blk.new w 23 #[.bool sv, .int .i64 st, .int .i64 wi, .int .i64 fr, .int .i64 li, .int .i64 ta, .int .i64 qu]
  have hnew := conn_New_not sv st wi fr li ta qu (w.alloc (.cells #[.bool sv, .int .i64 st, .int .i64 wi, .int .i64 fr, .int .i64 li, .int .i64 ta, .int .i64 qu] 23)) hnot
  have HNEW := Lib.hid hnew
  have HBT := Lib.hid bT
  clear hnot hnew bT
  go_enter Tryz.func3, Tryz.ntmps3
  go_wp2_with fail
  refine HNEW.out.mono ?_
  rintro e w1 ⟨rfl, k1⟩
  have bT1 := HBT.out.kept k1 (fun x => x)
  have t0 : w1.cell? ⟨w.heap.size, 0, none⟩ = some (.bool sv) := (Blk.cell bT1 0).trans rfl
  have t1 : w1.cell? ⟨w.heap.size, 1, none⟩ = some (.int .i64 st) := (Blk.cell bT1 1).trans rfl
  have t2 : w1.cell? ⟨w.heap.size, 2, none⟩ = some (.int .i64 wi) := (Blk.cell bT1 2).trans rfl
  have t3 : w1.cell? ⟨w.heap.size, 3, none⟩ = some (.int .i64 fr) := (Blk.cell bT1 3).trans rfl
  have t4 : w1.cell? ⟨w.heap.size, 4, none⟩ = some (.int .i64 li) := (Blk.cell bT1 4).trans rfl
  have t5 : w1.cell? ⟨w.heap.size, 5, none⟩ = some (.int .i64 ta) := (Blk.cell bT1 5).trans rfl
  have t6 : w1.cell? ⟨w.heap.size, 6, none⟩ = some (.int .i64 qu) := (Blk.cell bT1 6).trans rfl
  have HK1 := Lib.hid (((Kept.refl _ _).alloc _).trans k1)
  clear k1 bT1
  go_wp2_with fail
  refine (law_awake _).mono ?_
  rintro e w2 ⟨rfl, k2⟩
  have HK2 := Lib.hid k2
  clear k2
  go_wp2_with fail
  go_ret
  exact ⟨rfl, HK1.out.trans HK2.out⟩
set_option maxHeartbeats 1000000 in
set_option maxRecDepth 100000 in
theorem law_not5 (sv : Bool) (st wi fr li ta qu : Int) (w : World) (g0 : decide (0 ≤ st) = true) (g1 : decide (st ≤ 1024) = true) (g2 : decide (0 ≤ wi) = true) (g3 : decide (wi ≤ 2147483647) = true) (g4 : decide (16384 ≤ fr) = true) (g5 : decide (fr ≤ 16777215) = false) :
    Calls Tryz.prog 3 #[.agg #[.bool sv, .int .i64 st, .int .i64 wi, .int .i64 fr, .int .i64 li, .int .i64 ta, .int .i64 qu]] w (LawDone w) := by
  have hnot : ¬ May st wi fr li ta qu := by
    unfold May
    have := of_decide_eq_false g5
    omega
  have bT := Blk.new w 23 #[.bool sv, .int .i64 st, .int .i64 wi, .int .i64 fr, .int .i64 li, .int .i64 ta, .int .i64 qu]
  have hnew := conn_New_not sv st wi fr li ta qu (w.alloc (.cells #[.bool sv, .int .i64 st, .int .i64 wi, .int .i64 fr, .int .i64 li, .int .i64 ta, .int .i64 qu] 23)) hnot
  have HNEW := Lib.hid hnew
  have HBT := Lib.hid bT
  clear hnot hnew bT
  go_enter Tryz.func3, Tryz.ntmps3
  go_wp2_with fail
  refine HNEW.out.mono ?_
  rintro e w1 ⟨rfl, k1⟩
  have bT1 := HBT.out.kept k1 (fun x => x)
  have t0 : w1.cell? ⟨w.heap.size, 0, none⟩ = some (.bool sv) := (Blk.cell bT1 0).trans rfl
  have t1 : w1.cell? ⟨w.heap.size, 1, none⟩ = some (.int .i64 st) := (Blk.cell bT1 1).trans rfl
  have t2 : w1.cell? ⟨w.heap.size, 2, none⟩ = some (.int .i64 wi) := (Blk.cell bT1 2).trans rfl
  have t3 : w1.cell? ⟨w.heap.size, 3, none⟩ = some (.int .i64 fr) := (Blk.cell bT1 3).trans rfl
  have t4 : w1.cell? ⟨w.heap.size, 4, none⟩ = some (.int .i64 li) := (Blk.cell bT1 4).trans rfl
  have t5 : w1.cell? ⟨w.heap.size, 5, none⟩ = some (.int .i64 ta) := (Blk.cell bT1 5).trans rfl
  have t6 : w1.cell? ⟨w.heap.size, 6, none⟩ = some (.int .i64 qu) := (Blk.cell bT1 6).trans rfl
  have HK1 := Lib.hid (((Kept.refl _ _).alloc _).trans k1)
  clear k1 bT1
  go_wp2_with fail
  refine (law_awake _).mono ?_
  rintro e w2 ⟨rfl, k2⟩
  have HK2 := Lib.hid k2
  clear k2
  go_wp2_with fail
  go_ret
  exact ⟨rfl, HK1.out.trans HK2.out⟩
set_option maxHeartbeats 1000000 in
set_option maxRecDepth 100000 in
theorem law_not6 (sv : Bool) (st wi fr li ta qu : Int) (w : World) (g0 : decide (0 ≤ st) = true) (g1 : decide (st ≤ 1024) = true) (g2 : decide (0 ≤ wi) = true) (g3 : decide (wi ≤ 2147483647) = true) (g4 : decide (16384 ≤ fr) = true) (g5 : decide (fr ≤ 16777215) = true) (g6 : decide (0 ≤ li) = false) :
    Calls Tryz.prog 3 #[.agg #[.bool sv, .int .i64 st, .int .i64 wi, .int .i64 fr, .int .i64 li, .int .i64 ta, .int .i64 qu]] w (LawDone w) := by
  have hnot : ¬ May st wi fr li ta qu := by
    unfold May
    have := of_decide_eq_false g6
    omega
  have bT := Blk.new w 23 #[.bool sv, .int .i64 st, .int .i64 wi, .int .i64 fr, .int .i64 li, .int .i64 ta, .int .i64 qu]
  have hnew := conn_New_not sv st wi fr li ta qu (w.alloc (.cells #[.bool sv, .int .i64 st, .int .i64 wi, .int .i64 fr, .int .i64 li, .int .i64 ta, .int .i64 qu] 23)) hnot
  have HNEW := Lib.hid hnew
  have HBT := Lib.hid bT
  clear hnot hnew bT
  go_enter Tryz.func3, Tryz.ntmps3
  go_wp2_with fail
  refine HNEW.out.mono ?_
  rintro e w1 ⟨rfl, k1⟩
  have bT1 := HBT.out.kept k1 (fun x => x)
  have t0 : w1.cell? ⟨w.heap.size, 0, none⟩ = some (.bool sv) := (Blk.cell bT1 0).trans rfl
  have t1 : w1.cell? ⟨w.heap.size, 1, none⟩ = some (.int .i64 st) := (Blk.cell bT1 1).trans rfl
  have t2 : w1.cell? ⟨w.heap.size, 2, none⟩ = some (.int .i64 wi) := (Blk.cell bT1 2).trans rfl
  have t3 : w1.cell? ⟨w.heap.size, 3, none⟩ = some (.int .i64 fr) := (Blk.cell bT1 3).trans rfl
  have t4 : w1.cell? ⟨w.heap.size, 4, none⟩ = some (.int .i64 li) := (Blk.cell bT1 4).trans rfl
  have t5 : w1.cell? ⟨w.heap.size, 5, none⟩ = some (.int .i64 ta) := (Blk.cell bT1 5).trans rfl
  have t6 : w1.cell? ⟨w.heap.size, 6, none⟩ = some (.int .i64 qu) := (Blk.cell bT1 6).trans rfl
  have HK1 := Lib.hid (((Kept.refl _ _).alloc _).trans k1)
  clear k1 bT1
  go_wp2_with fail
  refine (law_awake _).mono ?_
  rintro e w2 ⟨rfl, k2⟩
  have HK2 := Lib.hid k2
  clear k2
  go_wp2_with fail
  go_ret
  exact ⟨rfl, HK1.out.trans HK2.out⟩
set_option maxHeartbeats 1000000 in
set_option maxRecDepth 100000 in
theorem law_not7 (sv : Bool) (st wi fr li ta qu : Int) (w : World) (g0 : decide (0 ≤ st) = true) (g1 : decide (st ≤ 1024) = true) (g2 : decide (0 ≤ wi) = true) (g3 : decide (wi ≤ 2147483647) = true) (g4 : decide (16384 ≤ fr) = true) (g5 : decide (fr ≤ 16777215) = true) (g6 : decide (0 ≤ li) = true) (g7 : decide (li ≤ 2147483647) = false) :
    Calls Tryz.prog 3 #[.agg #[.bool sv, .int .i64 st, .int .i64 wi, .int .i64 fr, .int .i64 li, .int .i64 ta, .int .i64 qu]] w (LawDone w) := by
  have hnot : ¬ May st wi fr li ta qu := by
    unfold May
    have := of_decide_eq_false g7
    omega
  have bT := Blk.new w 23 #[.bool sv, .int .i64 st, .int .i64 wi, .int .i64 fr, .int .i64 li, .int .i64 ta, .int .i64 qu]
  have hnew := conn_New_not sv st wi fr li ta qu (w.alloc (.cells #[.bool sv, .int .i64 st, .int .i64 wi, .int .i64 fr, .int .i64 li, .int .i64 ta, .int .i64 qu] 23)) hnot
  have HNEW := Lib.hid hnew
  have HBT := Lib.hid bT
  clear hnot hnew bT
  go_enter Tryz.func3, Tryz.ntmps3
  go_wp2_with fail
  refine HNEW.out.mono ?_
  rintro e w1 ⟨rfl, k1⟩
  have bT1 := HBT.out.kept k1 (fun x => x)
  have t0 : w1.cell? ⟨w.heap.size, 0, none⟩ = some (.bool sv) := (Blk.cell bT1 0).trans rfl
  have t1 : w1.cell? ⟨w.heap.size, 1, none⟩ = some (.int .i64 st) := (Blk.cell bT1 1).trans rfl
  have t2 : w1.cell? ⟨w.heap.size, 2, none⟩ = some (.int .i64 wi) := (Blk.cell bT1 2).trans rfl
  have t3 : w1.cell? ⟨w.heap.size, 3, none⟩ = some (.int .i64 fr) := (Blk.cell bT1 3).trans rfl
  have t4 : w1.cell? ⟨w.heap.size, 4, none⟩ = some (.int .i64 li) := (Blk.cell bT1 4).trans rfl
  have t5 : w1.cell? ⟨w.heap.size, 5, none⟩ = some (.int .i64 ta) := (Blk.cell bT1 5).trans rfl
  have t6 : w1.cell? ⟨w.heap.size, 6, none⟩ = some (.int .i64 qu) := (Blk.cell bT1 6).trans rfl
  have HK1 := Lib.hid (((Kept.refl _ _).alloc _).trans k1)
  clear k1 bT1
  go_wp2_with fail
  refine (law_awake _).mono ?_
  rintro e w2 ⟨rfl, k2⟩
  have HK2 := Lib.hid k2
  clear k2
  go_wp2_with fail
  go_ret
  exact ⟨rfl, HK1.out.trans HK2.out⟩
set_option maxHeartbeats 1000000 in
set_option maxRecDepth 100000 in
theorem law_not8 (sv : Bool) (st wi fr li ta qu : Int) (w : World) (g0 : decide (0 ≤ st) = true) (g1 : decide (st ≤ 1024) = true) (g2 : decide (0 ≤ wi) = true) (g3 : decide (wi ≤ 2147483647) = true) (g4 : decide (16384 ≤ fr) = true) (g5 : decide (fr ≤ 16777215) = true) (g6 : decide (0 ≤ li) = true) (g7 : decide (li ≤ 2147483647) = true) (g8 : decide (0 ≤ ta) = false) :
    Calls Tryz.prog 3 #[.agg #[.bool sv, .int .i64 st, .int .i64 wi, .int .i64 fr, .int .i64 li, .int .i64 ta, .int .i64 qu]] w (LawDone w) := by
  have hnot : ¬ May st wi fr li ta qu := by
    unfold May
    have := of_decide_eq_false g8
    omega
  have bT := Blk.new w 23 #[.bool sv, .int .i64 st, .int .i64 wi, .int .i64 fr, .int .i64 li, .int .i64 ta, .int .i64 qu]
  have hnew := conn_New_not sv st wi fr li ta qu (w.alloc (.cells #[.bool sv, .int .i64 st, .int .i64 wi, .int .i64 fr, .int .i64 li, .int .i64 ta, .int .i64 qu] 23)) hnot
  have HNEW := Lib.hid hnew
  have HBT := Lib.hid bT
  clear hnot hnew bT
  go_enter Tryz.func3, Tryz.ntmps3
  go_wp2_with fail
  refine HNEW.out.mono ?_
  rintro e w1 ⟨rfl, k1⟩
  have bT1 := HBT.out.kept k1 (fun x => x)
  have t0 : w1.cell? ⟨w.heap.size, 0, none⟩ = some (.bool sv) := (Blk.cell bT1 0).trans rfl
  have t1 : w1.cell? ⟨w.heap.size, 1, none⟩ = some (.int .i64 st) := (Blk.cell bT1 1).trans rfl
  have t2 : w1.cell? ⟨w.heap.size, 2, none⟩ = some (.int .i64 wi) := (Blk.cell bT1 2).trans rfl
  have t3 : w1.cell? ⟨w.heap.size, 3, none⟩ = some (.int .i64 fr) := (Blk.cell bT1 3).trans rfl
  have t4 : w1.cell? ⟨w.heap.size, 4, none⟩ = some (.int .i64 li) := (Blk.cell bT1 4).trans rfl
  have t5 : w1.cell? ⟨w.heap.size, 5, none⟩ = some (.int .i64 ta) := (Blk.cell bT1 5).trans rfl
  have t6 : w1.cell? ⟨w.heap.size, 6, none⟩ = some (.int .i64 qu) := (Blk.cell bT1 6).trans rfl
  have HK1 := Lib.hid (((Kept.refl _ _).alloc _).trans k1)
  clear k1 bT1
  go_wp2_with fail
  refine (law_awake _).mono ?_
  rintro e w2 ⟨rfl, k2⟩
  have HK2 := Lib.hid k2
  clear k2
  go_wp2_with fail
  go_ret
  exact ⟨rfl, HK1.out.trans HK2.out⟩
set_option maxHeartbeats 1000000 in
set_option maxRecDepth 100000 in
theorem law_not9 (sv : Bool) (st wi fr li ta qu : Int) (w : World) (g0 : decide (0 ≤ st) = true) (g1 : decide (st ≤ 1024) = true) (g2 : decide (0 ≤ wi) = true) (g3 : decide (wi ≤ 2147483647) = true) (g4 : decide (16384 ≤ fr) = true) (g5 : decide (fr ≤ 16777215) = true) (g6 : decide (0 ≤ li) = true) (g7 : decide (li ≤ 2147483647) = true) (g8 : decide (0 ≤ ta) = true) (g9 : decide (ta ≤ 65536) = false) :
    Calls Tryz.prog 3 #[.agg #[.bool sv, .int .i64 st, .int .i64 wi, .int .i64 fr, .int .i64 li, .int .i64 ta, .int .i64 qu]] w (LawDone w) := by
  have hnot : ¬ May st wi fr li ta qu := by
    unfold May
    have := of_decide_eq_false g9
    omega
  have bT := Blk.new w 23 #[.bool sv, .int .i64 st, .int .i64 wi, .int .i64 fr, .int .i64 li, .int .i64 ta, .int .i64 qu]
  have hnew := conn_New_not sv st wi fr li ta qu (w.alloc (.cells #[.bool sv, .int .i64 st, .int .i64 wi, .int .i64 fr, .int .i64 li, .int .i64 ta, .int .i64 qu] 23)) hnot
  have HNEW := Lib.hid hnew
  have HBT := Lib.hid bT
  clear hnot hnew bT
  go_enter Tryz.func3, Tryz.ntmps3
  go_wp2_with fail
  refine HNEW.out.mono ?_
  rintro e w1 ⟨rfl, k1⟩
  have bT1 := HBT.out.kept k1 (fun x => x)
  have t0 : w1.cell? ⟨w.heap.size, 0, none⟩ = some (.bool sv) := (Blk.cell bT1 0).trans rfl
  have t1 : w1.cell? ⟨w.heap.size, 1, none⟩ = some (.int .i64 st) := (Blk.cell bT1 1).trans rfl
  have t2 : w1.cell? ⟨w.heap.size, 2, none⟩ = some (.int .i64 wi) := (Blk.cell bT1 2).trans rfl
  have t3 : w1.cell? ⟨w.heap.size, 3, none⟩ = some (.int .i64 fr) := (Blk.cell bT1 3).trans rfl
  have t4 : w1.cell? ⟨w.heap.size, 4, none⟩ = some (.int .i64 li) := (Blk.cell bT1 4).trans rfl
  have t5 : w1.cell? ⟨w.heap.size, 5, none⟩ = some (.int .i64 ta) := (Blk.cell bT1 5).trans rfl
  have t6 : w1.cell? ⟨w.heap.size, 6, none⟩ = some (.int .i64 qu) := (Blk.cell bT1 6).trans rfl
  have HK1 := Lib.hid (((Kept.refl _ _).alloc _).trans k1)
  clear k1 bT1
  go_wp2_with fail
  refine (law_awake _).mono ?_
  rintro e w2 ⟨rfl, k2⟩
  have HK2 := Lib.hid k2
  clear k2
  go_wp2_with fail
  go_ret
  exact ⟨rfl, HK1.out.trans HK2.out⟩
set_option maxHeartbeats 1000000 in
set_option maxRecDepth 100000 in
theorem law_not10 (sv : Bool) (st wi fr li ta qu : Int) (w : World) (g0 : decide (0 ≤ st) = true) (g1 : decide (st ≤ 1024) = true) (g2 : decide (0 ≤ wi) = true) (g3 : decide (wi ≤ 2147483647) = true) (g4 : decide (16384 ≤ fr) = true) (g5 : decide (fr ≤ 16777215) = true) (g6 : decide (0 ≤ li) = true) (g7 : decide (li ≤ 2147483647) = true) (g8 : decide (0 ≤ ta) = true) (g9 : decide (ta ≤ 65536) = true) (g10 : decide (0 ≤ qu) = false) :
    Calls Tryz.prog 3 #[.agg #[.bool sv, .int .i64 st, .int .i64 wi, .int .i64 fr, .int .i64 li, .int .i64 ta, .int .i64 qu]] w (LawDone w) := by
  have hnot : ¬ May st wi fr li ta qu := by
    unfold May
    have := of_decide_eq_false g10
    omega
  have bT := Blk.new w 23 #[.bool sv, .int .i64 st, .int .i64 wi, .int .i64 fr, .int .i64 li, .int .i64 ta, .int .i64 qu]
  have hnew := conn_New_not sv st wi fr li ta qu (w.alloc (.cells #[.bool sv, .int .i64 st, .int .i64 wi, .int .i64 fr, .int .i64 li, .int .i64 ta, .int .i64 qu] 23)) hnot
  have HNEW := Lib.hid hnew
  have HBT := Lib.hid bT
  clear hnot hnew bT
  go_enter Tryz.func3, Tryz.ntmps3
  go_wp2_with fail
  refine HNEW.out.mono ?_
  rintro e w1 ⟨rfl, k1⟩
  have bT1 := HBT.out.kept k1 (fun x => x)
  have t0 : w1.cell? ⟨w.heap.size, 0, none⟩ = some (.bool sv) := (Blk.cell bT1 0).trans rfl
  have t1 : w1.cell? ⟨w.heap.size, 1, none⟩ = some (.int .i64 st) := (Blk.cell bT1 1).trans rfl
  have t2 : w1.cell? ⟨w.heap.size, 2, none⟩ = some (.int .i64 wi) := (Blk.cell bT1 2).trans rfl
  have t3 : w1.cell? ⟨w.heap.size, 3, none⟩ = some (.int .i64 fr) := (Blk.cell bT1 3).trans rfl
  have t4 : w1.cell? ⟨w.heap.size, 4, none⟩ = some (.int .i64 li) := (Blk.cell bT1 4).trans rfl
  have t5 : w1.cell? ⟨w.heap.size, 5, none⟩ = some (.int .i64 ta) := (Blk.cell bT1 5).trans rfl
  have t6 : w1.cell? ⟨w.heap.size, 6, none⟩ = some (.int .i64 qu) := (Blk.cell bT1 6).trans rfl
  have HK1 := Lib.hid (((Kept.refl _ _).alloc _).trans k1)
  clear k1 bT1
  go_wp2_with fail
  refine (law_awake _).mono ?_
  rintro e w2 ⟨rfl, k2⟩
  have HK2 := Lib.hid k2
  clear k2
  go_wp2_with fail
  go_ret
  exact ⟨rfl, HK1.out.trans HK2.out⟩
set_option maxHeartbeats 1000000 in
set_option maxRecDepth 100000 in
theorem law_not11 (sv : Bool) (st wi fr li ta qu : Int) (w : World) (g0 : decide (0 ≤ st) = true) (g1 : decide (st ≤ 1024) = true) (g2 : decide (0 ≤ wi) = true) (g3 : decide (wi ≤ 2147483647) = true) (g4 : decide (16384 ≤ fr) = true) (g5 : decide (fr ≤ 16777215) = true) (g6 : decide (0 ≤ li) = true) (g7 : decide (li ≤ 2147483647) = true) (g8 : decide (0 ≤ ta) = true) (g9 : decide (ta ≤ 65536) = true) (g10 : decide (0 ≤ qu) = true) (g11 : decide (qu ≤ 1048576) = false) :
    Calls Tryz.prog 3 #[.agg #[.bool sv, .int .i64 st, .int .i64 wi, .int .i64 fr, .int .i64 li, .int .i64 ta, .int .i64 qu]] w (LawDone w) := by
  have hnot : ¬ May st wi fr li ta qu := by
    unfold May
    have := of_decide_eq_false g11
    omega
  have bT := Blk.new w 23 #[.bool sv, .int .i64 st, .int .i64 wi, .int .i64 fr, .int .i64 li, .int .i64 ta, .int .i64 qu]
  have hnew := conn_New_not sv st wi fr li ta qu (w.alloc (.cells #[.bool sv, .int .i64 st, .int .i64 wi, .int .i64 fr, .int .i64 li, .int .i64 ta, .int .i64 qu] 23)) hnot
  have HNEW := Lib.hid hnew
  have HBT := Lib.hid bT
  clear hnot hnew bT
  go_enter Tryz.func3, Tryz.ntmps3
  go_wp2_with fail
  refine HNEW.out.mono ?_
  rintro e w1 ⟨rfl, k1⟩
  have bT1 := HBT.out.kept k1 (fun x => x)
  have t0 : w1.cell? ⟨w.heap.size, 0, none⟩ = some (.bool sv) := (Blk.cell bT1 0).trans rfl
  have t1 : w1.cell? ⟨w.heap.size, 1, none⟩ = some (.int .i64 st) := (Blk.cell bT1 1).trans rfl
  have t2 : w1.cell? ⟨w.heap.size, 2, none⟩ = some (.int .i64 wi) := (Blk.cell bT1 2).trans rfl
  have t3 : w1.cell? ⟨w.heap.size, 3, none⟩ = some (.int .i64 fr) := (Blk.cell bT1 3).trans rfl
  have t4 : w1.cell? ⟨w.heap.size, 4, none⟩ = some (.int .i64 li) := (Blk.cell bT1 4).trans rfl
  have t5 : w1.cell? ⟨w.heap.size, 5, none⟩ = some (.int .i64 ta) := (Blk.cell bT1 5).trans rfl
  have t6 : w1.cell? ⟨w.heap.size, 6, none⟩ = some (.int .i64 qu) := (Blk.cell bT1 6).trans rfl
  have HK1 := Lib.hid (((Kept.refl _ _).alloc _).trans k1)
  clear k1 bT1
  go_wp2_with fail
  refine (law_awake _).mono ?_
  rintro e w2 ⟨rfl, k2⟩
  have HK2 := Lib.hid k2
  clear k2
  go_wp2_with fail
  go_ret
  exact ⟨rfl, HK1.out.trans HK2.out⟩
set_option maxHeartbeats 2000000 in
set_option maxRecDepth 100000 in
theorem law_may (sv : Bool) (st wi fr li ta qu : Int) (w : World) (g0 : decide (0 ≤ st) = true) (g1 : decide (st ≤ 1024) = true) (g2 : decide (0 ≤ wi) = true) (g3 : decide (wi ≤ 2147483647) = true) (g4 : decide (16384 ≤ fr) = true) (g5 : decide (fr ≤ 16777215) = true) (g6 : decide (0 ≤ li) = true) (g7 : decide (li ≤ 2147483647) = true) (g8 : decide (0 ≤ ta) = true) (g9 : decide (ta ≤ 65536) = true) (g10 : decide (0 ≤ qu) = true) (g11 : decide (qu ≤ 1048576) = true) :
    Calls Tryz.prog 3 #[.agg #[.bool sv, .int .i64 st, .int .i64 wi, .int .i64 fr, .int .i64 li, .int .i64 ta, .int .i64 qu]] w (LawDone w) := by
  have hmay : May st wi fr li ta qu := by
    unfold May
    have h0 := of_decide_eq_true g0; have h1 := of_decide_eq_true g1; have h2 := of_decide_eq_true g2; have h3 := of_decide_eq_true g3; have h4 := of_decide_eq_true g4; have h5 := of_decide_eq_true g5; have h6 := of_decide_eq_true g6; have h7 := of_decide_eq_true g7; have h8 := of_decide_eq_true g8; have h9 := of_decide_eq_true g9; have h10 := of_decide_eq_true g10; have h11 := of_decide_eq_true g11
    omega
  have bT := Blk.new w 23 #[.bool sv, .int .i64 st, .int .i64 wi, .int .i64 fr, .int .i64 li, .int .i64 ta, .int .i64 qu]
  have hnew := conn_New sv st wi fr li ta qu (w.alloc (.cells #[.bool sv, .int .i64 st, .int .i64 wi, .int .i64 fr, .int .i64 li, .int .i64 ta, .int .i64 qu] 23)) hmay _ rfl
  have HNEW := Lib.hid hnew
  have HBT := Lib.hid bT
  clear hmay hnew bT
  go_enter Tryz.func3, Tryz.ntmps3
  go_wp2_with fail
  refine HNEW.out.mono ?_
  rintro e w1 ⟨cb, cs, sv2, pin, mb, wv, n, ys, rfl, hat, k1⟩
  have bT1 := HBT.out.kept k1 (fun x => x)
  have t0 : w1.cell? ⟨w.heap.size, 0, none⟩ = some (.bool sv) := (Blk.cell bT1 0).trans rfl
  have t1 : w1.cell? ⟨w.heap.size, 1, none⟩ = some (.int .i64 st) := (Blk.cell bT1 1).trans rfl
  have t2 : w1.cell? ⟨w.heap.size, 2, none⟩ = some (.int .i64 wi) := (Blk.cell bT1 2).trans rfl
  have t3 : w1.cell? ⟨w.heap.size, 3, none⟩ = some (.int .i64 fr) := (Blk.cell bT1 3).trans rfl
  have t4 : w1.cell? ⟨w.heap.size, 4, none⟩ = some (.int .i64 li) := (Blk.cell bT1 4).trans rfl
  have t5 : w1.cell? ⟨w.heap.size, 5, none⟩ = some (.int .i64 ta) := (Blk.cell bT1 5).trans rfl
  have t6 : w1.cell? ⟨w.heap.size, 6, none⟩ = some (.int .i64 qu) := (Blk.cell bT1 6).trans rfl
  have HK1 := Lib.hid (((Kept.refl _ _).alloc _).trans k1)
  have HAT := Lib.hid hat
  clear k1 bT1 hat
  go_wp2_with fail
  refine (conn_Ready HAT.out).mono ?_
  rintro e w' ⟨rfl, rfl⟩
  go_wp2_with fail
  refine (conn_Slots HAT.out).mono ?_
  rintro e w' ⟨rfl, rfl⟩
  go_wp2_with fail
  refine (conn_Streams HAT.out).mono ?_
  rintro e w2 ⟨rfl, k2⟩
  have HK2 := Lib.hid (HK1.out.trans k2)
  have HAT2 := Lib.hid (HAT.out.kept k2)
  clear k2 t0 t1 t2 t3 t4 t5 t6
  go_wp2_with fail
  refine (conn_Failed HAT2.out).mono ?_
  rintro e w' ⟨rfl, rfl⟩
  go_wp2_with fail
  refine (law_awake _).mono ?_
  rintro e w3 ⟨rfl, k3⟩
  have HK3 := Lib.hid k3
  clear k3
  go_wp2_with fail
  go_ret
  exact ⟨rfl, HK2.out.trans HK3.out⟩

theorem law_ConnSetups (sv : Bool) (st wi fr li ta qu : Int) (w : World) : Calls Tryz.prog 3 #[.agg #[.bool sv, .int .i64 st, .int .i64 wi, .int .i64 fr, .int .i64 li, .int .i64 ta, .int .i64 qu]] w (LawDone w) := by
  by_cases h0 : 0 ≤ st
  case neg => exact law_not0 sv st wi fr li ta qu w  (decide_eq_false h0)
  by_cases h1 : st ≤ 1024
  case neg => exact law_not1 sv st wi fr li ta qu w (decide_eq_true h0) (decide_eq_false h1)
  by_cases h2 : 0 ≤ wi
  case neg => exact law_not2 sv st wi fr li ta qu w (decide_eq_true h0) (decide_eq_true h1) (decide_eq_false h2)
  by_cases h3 : wi ≤ 2147483647
  case neg => exact law_not3 sv st wi fr li ta qu w (decide_eq_true h0) (decide_eq_true h1) (decide_eq_true h2) (decide_eq_false h3)
  by_cases h4 : 16384 ≤ fr
  case neg => exact law_not4 sv st wi fr li ta qu w (decide_eq_true h0) (decide_eq_true h1) (decide_eq_true h2) (decide_eq_true h3) (decide_eq_false h4)
  by_cases h5 : fr ≤ 16777215
  case neg => exact law_not5 sv st wi fr li ta qu w (decide_eq_true h0) (decide_eq_true h1) (decide_eq_true h2) (decide_eq_true h3) (decide_eq_true h4) (decide_eq_false h5)
  by_cases h6 : 0 ≤ li
  case neg => exact law_not6 sv st wi fr li ta qu w (decide_eq_true h0) (decide_eq_true h1) (decide_eq_true h2) (decide_eq_true h3) (decide_eq_true h4) (decide_eq_true h5) (decide_eq_false h6)
  by_cases h7 : li ≤ 2147483647
  case neg => exact law_not7 sv st wi fr li ta qu w (decide_eq_true h0) (decide_eq_true h1) (decide_eq_true h2) (decide_eq_true h3) (decide_eq_true h4) (decide_eq_true h5) (decide_eq_true h6) (decide_eq_false h7)
  by_cases h8 : 0 ≤ ta
  case neg => exact law_not8 sv st wi fr li ta qu w (decide_eq_true h0) (decide_eq_true h1) (decide_eq_true h2) (decide_eq_true h3) (decide_eq_true h4) (decide_eq_true h5) (decide_eq_true h6) (decide_eq_true h7) (decide_eq_false h8)
  by_cases h9 : ta ≤ 65536
  case neg => exact law_not9 sv st wi fr li ta qu w (decide_eq_true h0) (decide_eq_true h1) (decide_eq_true h2) (decide_eq_true h3) (decide_eq_true h4) (decide_eq_true h5) (decide_eq_true h6) (decide_eq_true h7) (decide_eq_true h8) (decide_eq_false h9)
  by_cases h10 : 0 ≤ qu
  case neg => exact law_not10 sv st wi fr li ta qu w (decide_eq_true h0) (decide_eq_true h1) (decide_eq_true h2) (decide_eq_true h3) (decide_eq_true h4) (decide_eq_true h5) (decide_eq_true h6) (decide_eq_true h7) (decide_eq_true h8) (decide_eq_true h9) (decide_eq_false h10)
  by_cases h11 : qu ≤ 1048576
  case neg => exact law_not11 sv st wi fr li ta qu w (decide_eq_true h0) (decide_eq_true h1) (decide_eq_true h2) (decide_eq_true h3) (decide_eq_true h4) (decide_eq_true h5) (decide_eq_true h6) (decide_eq_true h7) (decide_eq_true h8) (decide_eq_true h9) (decide_eq_true h10) (decide_eq_false h11)
  exact law_may sv st wi fr li ta qu w (decide_eq_true h0) (decide_eq_true h1) (decide_eq_true h2) (decide_eq_true h3) (decide_eq_true h4) (decide_eq_true h5) (decide_eq_true h6) (decide_eq_true h7) (decide_eq_true h8) (decide_eq_true h9) (decide_eq_true h10) (decide_eq_true h11)
end Go.Proofs.YtchgieogdinglaaGreat
