/- The law's play: Limit, Probe (written by wip/tools/plays.py out of play_1). -/
import Derived.Test.YtchgieogdinglaaLawC
set_option linter.unusedSimpArgs false
set_option linter.unusedVariables false
namespace Go.Proofs.Ytchgieogdinglaa
open Go.RowKit
open Ser
section
variable {c : PC} {d : RC} {w w1 w2 : World} {bs ds : List Bk} {N : Int} {G H : Nat → Prop}
set_option maxHeartbeats 1000000 in
set_option maxRecDepth 20000 in
theorem play_4 (T : Two c d w bs ds N G H) (hN : N ≤ 576460752303423488) (a x : Int) (hx : x ≤ 9223372036854775807) :
    Calls Try.prog 10 #[.pointer (some ⟨c.pb, 0, none⟩), .pointer (some ⟨d.pb, 0, none⟩), .agg #[.int .i64 4, .int .i64 a, .int .i64 x]] w (Played c d w bs.length ds.length (N + 1) G H) := by
  have kA : Kept (fun _ => False) w (w.alloc (.cells #[.int .i64 4, .int .i64 a, .int .i64 x] 33)) := (Kept.refl _ _).alloc _
  have bA := Blk.new w 33 #[.int .i64 4, .int .i64 a, .int .i64 x]
  have T2 := (T.kept kA (fun _ _ x => x) (fun _ _ x => x)).kept (F := fun _ => False) ((Kept.refl _ _).drew) (fun _ _ x => x) (fun _ _ x => x)
  have k0 : Kept (fun _ => False) w (w.alloc (.cells #[.int .i64 4, .int .i64 a, .int .i64 x] 33)).drew := kA.drew
  have hob : ¬ G w.heap.size := fun h => by have := T.p.lt _ h; omega
  have hop : Calls Try.prog 33 #[.pointer (some ⟨c.pb, 0, none⟩), .int .i64 a, .int .i64 x] _ (Stepped c (w.alloc (.cells #[.int .i64 4, .int .i64 a, .int .i64 x] 33)).drew bs N G) := (pool_Limit T2.p.p T2.p.r T2.p.n a x).mono fun e w1 h => limit_step T2.p hx h
  have ho : ∀ w1, Step c (w.alloc (.cells #[.int .i64 4, .int .i64 a, .int .i64 x] 33)).drew bs N G w1 → w1.cell? ⟨w.heap.size, 1, none⟩ = some (.int .i64 a) ∧ w1.cell? ⟨w.heap.size, 2, none⟩ = some (.int .i64 x) := fun w1 h => by
    obtain ⟨_, _, _, _, hg⟩ := h
    exact ⟨(Blk.cell (Blk.kept bA.drew hg.kept hob) 1).trans rfl, (Blk.cell (Blk.kept bA.drew hg.kept hob) 2).trans rfl⟩
  have href : ∀ w1, Step c (w.alloc (.cells #[.int .i64 4, .int .i64 a, .int .i64 x] 33)).drew bs N G w1 → Calls Try.prog 34 #[.pointer (some ⟨d.pb, 0, none⟩), .int .i64 a, .int .i64 x] w1 (RStepped d w1 ds N H) := fun w1 h => by
    obtain ⟨_, _, _, _, hg⟩ := h
    exact ref_Limit (T2.r.kept hg.kept (fun i hi hG => T2.apart i hG hi) (Int.le_refl _)) a x
  have hob2 : ¬ H w.heap.size := fun h => by have := T.r.lt _ h; omega
  have ho3 : ∀ w1 w3, Step c (w.alloc (.cells #[.int .i64 4, .int .i64 a, .int .i64 x] 33)).drew bs N G w1 → RStep d w1 ds N H w3 → w3.cell? ⟨w.heap.size, 1, none⟩ = some (.int .i64 a) ∧ w3.cell? ⟨w.heap.size, 2, none⟩ = some (.int .i64 x) := fun w1 w3 h h' => by
    obtain ⟨_, _, _, _, hg⟩ := h
    obtain ⟨_, _, _, _, hg'⟩ := h'
    exact ⟨(Blk.cell (Blk.kept (Blk.kept bA.drew hg.kept hob) hg'.kept hob2) 1).trans rfl, (Blk.cell (Blk.kept (Blk.kept bA.drew hg.kept hob) hg'.kept hob2) 2).trans rfl⟩
  have HO3 := Lib.hid ho3
  have o1 : (w.alloc (.cells #[.int .i64 4, .int .i64 a, .int .i64 x] 33)).drew.cell? ⟨w.heap.size, 1, none⟩ = some (.int .i64 a) ∧ (w.alloc (.cells #[.int .i64 4, .int .i64 a, .int .i64 x] 33)).drew.cell? ⟨w.heap.size, 2, none⟩ = some (.int .i64 x) := ⟨(Blk.cell bA 1).trans rfl, (Blk.cell bA 2).trans rfl⟩
  have HOP := Lib.hid hop
  have HT := Lib.hid T2
  have HO := Lib.hid ho
  have HREF := Lib.hid href
  clear T T2 hop bA ho href ho3
  go_enter Try.func10, Try.ntmps10
  go_wp2_with fail
  refine wp_region_serI (fun W => W.cell? ⟨w.heap.size, 1, none⟩ = some (.int .i64 a) ∧ W.cell? ⟨w.heap.size, 2, none⟩ = some (.int .i64 x)) [0,0,0,0,0,3,0,0,0,0,0,3,0,0] [0,1,2,3,4,5,6,7,8,9,10,11,12,13] (by kernel_rfl) (by kernel_rfl) o1 ?_
  repeat (first | (refine wpSer_skip rfl rfl ?_) | (refine wpSer_calmE rfl rfl rfl rfl rfl rfl (by first | exact trivial | assumption) ?_; apply Exists.intro; refine ⟨?_, ?_⟩; focus (intro _ _ _ hK; go_step; first | exact hK | (rw [if_pos (by omega)]; go_step; exact hK) | (rw [if_neg (by omega)]; go_step; exact hK))))
  refine wpSer_opI rfl rfl rfl ?_
  intro _ hK
  go_step
  refine HOP.out.mono ?_
  rintro e w1 ⟨⟨v1, rfl⟩, hs1⟩
  have o2 := HO.out w1 hs1
  have HS1 := Lib.hid hs1
  clear hs1
  refine hK _ _ o2 ?_
  clear hK
  repeat (first | (refine wpSer_skip rfl rfl ?_) | (refine wpSer_calmE rfl rfl rfl rfl rfl rfl (by first | exact trivial | assumption) ?_; apply Exists.intro; refine ⟨?_, ?_⟩; focus (intro _ _ _ hK; go_step; first | exact hK | (rw [if_pos (by omega)]; go_step; exact hK) | (rw [if_neg (by omega)]; go_step; exact hK))))
  refine wpSer_opI rfl rfl rfl ?_
  intro _ hK
  go_step
  refine (HREF.out w1 HS1.out).mono ?_
  rintro e w3 ⟨⟨v2, rfl⟩, hs3⟩
  have o3 : w3.cell? ⟨w.heap.size, 1, none⟩ = some (.int .i64 a) ∧ w3.cell? ⟨w.heap.size, 2, none⟩ = some (.int .i64 x) := HO3.out w1 w3 HS1.out hs3
  have HS3 := Lib.hid hs3
  clear hs3
  refine hK _ _ o3 ?_
  clear hK
  repeat (first | (refine wpSer_skip rfl rfl ?_) | (refine wpSer_calmE rfl rfl rfl rfl rfl rfl (by first | exact trivial | assumption) ?_; apply Exists.intro; refine ⟨?_, ?_⟩; focus (intro _ _ _ hK; go_step; first | exact hK | (rw [if_pos (by omega)]; go_step; exact hK) | (rw [if_neg (by omega)]; go_step; exact hK))))
  (refine wpSer_nil ?_)
  go_wp2_with fail
  go_ret
  obtain ⟨bs', ds', G', H', q1, q2, q3, q4, q5⟩ := HT.out.steps HS1.out (Kept.refl _ _) (fun _ => HS3.out)
  exact ⟨⟨_, rfl⟩, bs', ds', G', H', q1, q2, q3, (k0.mono (fun _ _ x => x.elim)).trans q4, fun i hi => (q5 i hi).imp (fun x => x) (fun x => Nat.le_trans k0.size x)⟩
set_option maxHeartbeats 1000000 in
set_option maxRecDepth 20000 in
theorem play_7 (T : Two c d w bs ds N G H) (hN : N ≤ 576460752303423488) (wh a x : Int) (h0 : (wh == 0) = false) (h1 : (wh == 1) = false) (h2 : (wh == 2) = false) (h3 : (wh == 3) = false) (h4 : (wh == 4) = false) (h5 : (wh == 5) = false) (h6 : (wh == 6) = false) :
    Calls Try.prog 10 #[.pointer (some ⟨c.pb, 0, none⟩), .pointer (some ⟨d.pb, 0, none⟩), .agg #[.int .i64 wh, .int .i64 a, .int .i64 x]] w (Played c d w bs.length ds.length (N + 1) G H) := by
  have kA : Kept (fun _ => False) w (w.alloc (.cells #[.int .i64 wh, .int .i64 a, .int .i64 x] 33)) := (Kept.refl _ _).alloc _
  have bA := Blk.new w 33 #[.int .i64 wh, .int .i64 a, .int .i64 x]
  have T2 := (T.kept kA (fun _ _ x => x) (fun _ _ x => x)).kept (F := fun _ => False) ((Kept.refl _ _).drew) (fun _ _ x => x) (fun _ _ x => x)
  have k0 : Kept (fun _ => False) w (w.alloc (.cells #[.int .i64 wh, .int .i64 a, .int .i64 x] 33)).drew := kA.drew
  have hob : ¬ G w.heap.size := fun h => by have := T.p.lt _ h; omega
  have hop : Calls Try.prog 37 #[.pointer (some ⟨c.pb, 0, none⟩), .int .i64 a, .bool (x == 1)] _ (Stepped c (w.alloc (.cells #[.int .i64 wh, .int .i64 a, .int .i64 x] 33)).drew bs N G) := pool_Probe T2.p hN a (x == 1)
  have ho : ∀ w1, Step c (w.alloc (.cells #[.int .i64 wh, .int .i64 a, .int .i64 x] 33)).drew bs N G w1 → w1.cell? ⟨w.heap.size, 1, none⟩ = some (.int .i64 a) ∧ w1.cell? ⟨w.heap.size, 2, none⟩ = some (.int .i64 x) := fun w1 h => by
    obtain ⟨_, _, _, _, hg⟩ := h
    exact ⟨(Blk.cell (Blk.kept bA.drew hg.kept hob) 1).trans rfl, (Blk.cell (Blk.kept bA.drew hg.kept hob) 2).trans rfl⟩
  have href : ∀ w1, Step c (w.alloc (.cells #[.int .i64 wh, .int .i64 a, .int .i64 x] 33)).drew bs N G w1 → Calls Try.prog 38 #[.pointer (some ⟨d.pb, 0, none⟩), .int .i64 a, .bool (x == 1)] w1 (RStepped d w1 ds N H) := fun w1 h => by
    obtain ⟨_, _, _, _, hg⟩ := h
    exact ref_Probe (T2.r.kept hg.kept (fun i hi hG => T2.apart i hG hi) (Int.le_refl _)) hN a (x == 1)
  have hob2 : ¬ H w.heap.size := fun h => by have := T.r.lt _ h; omega
  have ho3 : ∀ w1 w3, Step c (w.alloc (.cells #[.int .i64 wh, .int .i64 a, .int .i64 x] 33)).drew bs N G w1 → RStep d w1 ds N H w3 → w3.cell? ⟨w.heap.size, 1, none⟩ = some (.int .i64 a) ∧ w3.cell? ⟨w.heap.size, 2, none⟩ = some (.int .i64 x) := fun w1 w3 h h' => by
    obtain ⟨_, _, _, _, hg⟩ := h
    obtain ⟨_, _, _, _, hg'⟩ := h'
    exact ⟨(Blk.cell (Blk.kept (Blk.kept bA.drew hg.kept hob) hg'.kept hob2) 1).trans rfl, (Blk.cell (Blk.kept (Blk.kept bA.drew hg.kept hob) hg'.kept hob2) 2).trans rfl⟩
  have HO3 := Lib.hid ho3
  have o1 : (w.alloc (.cells #[.int .i64 wh, .int .i64 a, .int .i64 x] 33)).drew.cell? ⟨w.heap.size, 1, none⟩ = some (.int .i64 a) ∧ (w.alloc (.cells #[.int .i64 wh, .int .i64 a, .int .i64 x] 33)).drew.cell? ⟨w.heap.size, 2, none⟩ = some (.int .i64 x) := ⟨(Blk.cell bA 1).trans rfl, (Blk.cell bA 2).trans rfl⟩
  have HOP := Lib.hid hop
  have HT := Lib.hid T2
  have HO := Lib.hid ho
  have HREF := Lib.hid href
  clear T T2 hop bA ho href ho3
  go_enter Try.func10, Try.ntmps10
  go_wp2_with fail
  refine wp_region_serI (fun W => W.cell? ⟨w.heap.size, 1, none⟩ = some (.int .i64 a) ∧ W.cell? ⟨w.heap.size, 2, none⟩ = some (.int .i64 x)) [0,0,0,0,0,0,3,0,0,0,0,0,0,3,0,0] [0,1,2,3,4,5,6,7,8,9,10,11,12,13,14,15] (by kernel_rfl) (by kernel_rfl) o1 ?_
  repeat (first | (refine wpSer_skip rfl rfl ?_) | (refine wpSer_calmE rfl rfl rfl rfl rfl rfl (by first | exact trivial | assumption) ?_; apply Exists.intro; refine ⟨?_, ?_⟩; focus (intro _ _ _ hK; go_step; first | exact hK | (rw [if_pos (by omega)]; go_step; exact hK) | (rw [if_neg (by omega)]; go_step; exact hK))))
  refine wpSer_opI rfl rfl rfl ?_
  intro _ hK
  go_step
  refine HOP.out.mono ?_
  rintro e w1 ⟨⟨v1, rfl⟩, hs1⟩
  have o2 := HO.out w1 hs1
  have HS1 := Lib.hid hs1
  clear hs1
  refine hK _ _ o2 ?_
  clear hK
  repeat (first | (refine wpSer_skip rfl rfl ?_) | (refine wpSer_calmE rfl rfl rfl rfl rfl rfl (by first | exact trivial | assumption) ?_; apply Exists.intro; refine ⟨?_, ?_⟩; focus (intro _ _ _ hK; go_step; first | exact hK | (rw [if_pos (by omega)]; go_step; exact hK) | (rw [if_neg (by omega)]; go_step; exact hK))))
  refine wpSer_opI rfl rfl rfl ?_
  intro _ hK
  go_step
  refine (HREF.out w1 HS1.out).mono ?_
  rintro e w3 ⟨⟨v2, rfl⟩, hs3⟩
  have o3 : w3.cell? ⟨w.heap.size, 1, none⟩ = some (.int .i64 a) ∧ w3.cell? ⟨w.heap.size, 2, none⟩ = some (.int .i64 x) := HO3.out w1 w3 HS1.out hs3
  have HS3 := Lib.hid hs3
  clear hs3
  refine hK _ _ o3 ?_
  clear hK
  repeat (first | (refine wpSer_skip rfl rfl ?_) | (refine wpSer_calmE rfl rfl rfl rfl rfl rfl (by first | exact trivial | assumption) ?_; apply Exists.intro; refine ⟨?_, ?_⟩; focus (intro _ _ _ hK; go_step; first | exact hK | (rw [if_pos (by omega)]; go_step; exact hK) | (rw [if_neg (by omega)]; go_step; exact hK))))
  (refine wpSer_nil ?_)
  go_wp2_with fail
  go_ret
  obtain ⟨bs', ds', G', H', q1, q2, q3, q4, q5⟩ := HT.out.steps HS1.out (Kept.refl _ _) (fun _ => HS3.out)
  exact ⟨⟨_, rfl⟩, bs', ds', G', H', q1, q2, q3, (k0.mono (fun _ _ x => x.elim)).trans q4, fun i hi => (q5 i hi).imp (fun x => x) (fun x => Nat.le_trans k0.size x)⟩
end
end Go.Proofs.Ytchgieogdinglaa
