/- ConnSetups: a connection is made of a setup that may be. -/
import Derived.Test.YtchgieogdinglaaGreatCsM
set_option linter.unusedSimpArgs false
set_option linter.unusedVariables false
namespace Go.Proofs.YtchgieogdinglaaGreat
open Go.RowKit
open Ser

def Cells0 (sv : Bool) (st wi fr li ta qu : Int) (p1 p2 p3 p4 : Value) (sb : Nat) (p5 p6 p7 : Value) (mb : Nat) : Array Value :=
  #[.bool sv, .int .i64 st, .int .i64 wi, .int .i64 fr, .int .i64 li, .int .i64 ta, .int .i64 qu, .string ByteArray.empty, p1, p2, p3, p4, .pointer (some ⟨sb, 0, none⟩), p5, p6, p7, .map (some mb), .slice none 0 0, .nilFunc, .bool false, .bool false, .bool false, .bool false, .int .i64 (-1), .int .i64 0]
/-- A connection that is being made. -/
structure NS (w0 W : World) (cb : Nat) (cs : Array Value) (tb : Nat) (sv : Bool) (st wi fr li ta qu : Int) (sb smb mb : Nat) : Prop where
  c : Blk W cb 47 cs
  t : Blk W tb 23 (Box sv st wi fr li ta qu)
  s : Blk W sb 74 #[.map (some smb), .slice none 0 0]
  m : MapB encI W mb []
  n1 : w0.heap.size ≤ cb
  n2 : w0.heap.size ≤ sb
  k : Kept (fun _ => False) w0 W
section
variable {w0 W W' : World} {cb : Nat} {cs : Array Value} {tb : Nat} {sv : Bool} {st wi fr li ta qu : Int} {sb smb mb : Nat}
theorem NS.step (g : NS w0 W cb cs tb sv st wi fr li ta qu sb smb mb) (k : Kept (fun _ => False) W W') : NS w0 W' cb cs tb sv st wi fr li ta qu sb smb mb :=
  ⟨g.c.kept k (fun x => x), g.t.kept k (fun x => x), g.s.kept k (fun x => x), g.m.kept k (fun x => x), g.n1, g.n2, g.k.trans k⟩
theorem NS.setc (g : NS w0 W cb cs tb sv st wi fr li ta qu sb smb mb) (i : Nat) (u : Value) : NS w0 (W.setCell ⟨cb, i, none⟩ u) cb (cs.setIfInBounds i u) tb sv st wi fr li ta qu sb smb mb := by
  have k : Kept (· = cb) W (W.setCell ⟨cb, i, none⟩ u) := Kept.put (Kept.refl _ _) u
  exact ⟨g.c.set_ i u, g.t.kept k (Blk.ne_ g.t g.c (by decide)), g.s.kept k (Blk.ne_ g.s g.c (by decide)), g.m.kept k (g.m.is.ne_blk g.c), g.n1, g.n2, g.k.trans' k (fun q hq e => by have := g.n1; omega)⟩
theorem NS.box (g : NS w0 W cb cs tb sv st wi fr li ta qu sb smb mb) : W.cell? ⟨tb, 0, none⟩ = some (.bool sv) ∧ W.cell? ⟨tb, 1, none⟩ = some (.int .i64 st) ∧ W.cell? ⟨tb, 2, none⟩ = some (.int .i64 wi) ∧ W.cell? ⟨tb, 3, none⟩ = some (.int .i64 fr) ∧ W.cell? ⟨tb, 4, none⟩ = some (.int .i64 li) ∧ W.cell? ⟨tb, 5, none⟩ = some (.int .i64 ta) :=
  ⟨(Blk.cell g.t 0).trans rfl, (Blk.cell g.t 1).trans rfl, (Blk.cell g.t 2).trans rfl, (Blk.cell g.t 3).trans rfl, (Blk.cell g.t 4).trans rfl, (Blk.cell g.t 5).trans rfl⟩
end
def NewCut (w0 : World) (tb : Nat) (sv : Bool) (st wi fr li ta qu : Int) (s4 : Value) (X : World) : Prop :=
  ∃ cb sb smb mb, s4 = .pointer (some ⟨cb, 0, none⟩) ∧ NS w0 X cb (Cells0 sv st wi fr li ta qu (.pointer none) (.pointer none) (.pointer none) (.pointer none) sb (.pointer none) (.pointer none) (.pointer none) mb) tb sv st wi fr li ta qu sb smb mb
/-- What New has done. -/
def ConnMade (w : World) (least : Nat) (e : Ending) (w' : World) : Prop := ∃ cb cs sv pin mb wv n ys, e = .returned (.tuple #[.pointer (some ⟨cb, 0, none⟩), .int .i64 0]) ∧ ConnAt w' cb least cs sv pin mb wv n ys ∧ Kept (fun _ => False) w w'

set_option maxHeartbeats 4000000 in
set_option maxRecDepth 100000 in
theorem conn_New (sv : Bool) (st wi fr li ta qu : Int) (w : World) (h : May st wi fr li ta qu) (least : Nat) (hle : least = if sv then 1 else 25) :
    Calls Tryz.prog 4 #[.agg #[.bool sv, .int .i64 st, .int .i64 wi, .int .i64 fr, .int .i64 li, .int .i64 ta, .int .i64 qu]] w (ConnMade w least) := by
  have HLE := Lib.hid hle
  clear hle
  obtain ⟨h1, h2, h3, h4, h5, h6⟩ := h
  have e1 := Lib.hid (decide_eq_true h1)
  have e2 := Lib.hid (decide_eq_true h2)
  have e3 := Lib.hid (decide_eq_true h3)
  have e4 := Lib.hid (decide_eq_true h4)
  have e5 := Lib.hid (decide_eq_true h5)
  have e6 := Lib.hid (decide_eq_true h6)
  have hmm := @run_makeMap Tryz.prog
  have bT := Blk.new w 23 (Box sv st wi fr li ta qu)
  have HBT := Lib.hid bT
  have HH := Lib.hid (And.intro h1 (And.intro h2 (And.intro h3 (And.intro h4 (And.intro h5 h6)))))
  clear h1 h2 h3 h4 h5 h6 bT
  go_enter Tryz.func4, Tryz.ntmps4
  go_wp2_with fail
  refine (conn_within_b e1.out _).mono ?_
  rintro e w' ⟨rfl, rfl⟩
  go_wp2_with fail
  refine (conn_within_b e2.out _).mono ?_
  rintro e w' ⟨rfl, rfl⟩
  go_wp2_with fail
  refine (conn_within_b e3.out _).mono ?_
  rintro e w' ⟨rfl, rfl⟩
  go_wp2_with fail
  refine (conn_within_b e4.out _).mono ?_
  rintro e w' ⟨rfl, rfl⟩
  go_wp2_with fail
  refine (conn_within_b e5.out _).mono ?_
  rintro e w' ⟨rfl, rfl⟩
  go_wp2_with fail
  refine (conn_within_b e6.out _).mono ?_
  rintro e w' ⟨rfl, rfl⟩
  go_upto_region 3 with fail
  go_cut [4] (NewCut w w.heap.size sv st wi fr li ta qu)
  case first =>
    have hset := setting_New (w.alloc (.cells #[.bool sv, .int .i64 st, .int .i64 wi, .int .i64 fr, .int .i64 li, .int .i64 ta, .int .i64 qu] 23)).drew
    have hset2 := setting_New ((w.alloc (.cells #[.bool sv, .int .i64 st, .int .i64 wi, .int .i64 fr, .int .i64 li, .int .i64 ta, .int .i64 qu] 23)).alloc (.map #[] 0)).drew
    have HSET := Lib.hid hset
    have HSET2 := Lib.hid hset2
    clear hset hset2
    have i0 : (w.alloc (.cells #[.bool sv, .int .i64 st, .int .i64 wi, .int .i64 fr, .int .i64 li, .int .i64 ta, .int .i64 qu] 23)).drew.cell? ⟨w.heap.size, 0, none⟩ = some (.bool sv) ∧ (w.alloc (.cells #[.bool sv, .int .i64 st, .int .i64 wi, .int .i64 fr, .int .i64 li, .int .i64 ta, .int .i64 qu] 23)).drew.cell? ⟨w.heap.size, 1, none⟩ = some (.int .i64 st) ∧ (w.alloc (.cells #[.bool sv, .int .i64 st, .int .i64 wi, .int .i64 fr, .int .i64 li, .int .i64 ta, .int .i64 qu] 23)).drew.cell? ⟨w.heap.size, 2, none⟩ = some (.int .i64 wi) ∧ (w.alloc (.cells #[.bool sv, .int .i64 st, .int .i64 wi, .int .i64 fr, .int .i64 li, .int .i64 ta, .int .i64 qu] 23)).drew.cell? ⟨w.heap.size, 3, none⟩ = some (.int .i64 fr) ∧ (w.alloc (.cells #[.bool sv, .int .i64 st, .int .i64 wi, .int .i64 fr, .int .i64 li, .int .i64 ta, .int .i64 qu] 23)).drew.cell? ⟨w.heap.size, 4, none⟩ = some (.int .i64 li) ∧ (w.alloc (.cells #[.bool sv, .int .i64 st, .int .i64 wi, .int .i64 fr, .int .i64 li, .int .i64 ta, .int .i64 qu] 23)).drew.cell? ⟨w.heap.size, 5, none⟩ = some (.int .i64 ta) ∧ (w.alloc (.cells #[.bool sv, .int .i64 st, .int .i64 wi, .int .i64 fr, .int .i64 li, .int .i64 ta, .int .i64 qu] 23)).drew.cell? ⟨w.heap.size, 6, none⟩ = some (.int .i64 qu) := ⟨(Blk.cell HBT.out.drew 0).trans rfl, (Blk.cell HBT.out.drew 1).trans rfl, (Blk.cell HBT.out.drew 2).trans rfl, (Blk.cell HBT.out.drew 3).trans rfl, (Blk.cell HBT.out.drew 4).trans rfl, (Blk.cell HBT.out.drew 5).trans rfl, (Blk.cell HBT.out.drew 6).trans rfl⟩
    refine wp_region_two (fun V => V.cell? ⟨w.heap.size, 0, none⟩ = some (.bool sv) ∧ V.cell? ⟨w.heap.size, 1, none⟩ = some (.int .i64 st) ∧ V.cell? ⟨w.heap.size, 2, none⟩ = some (.int .i64 wi) ∧ V.cell? ⟨w.heap.size, 3, none⟩ = some (.int .i64 fr) ∧ V.cell? ⟨w.heap.size, 4, none⟩ = some (.int .i64 li) ∧ V.cell? ⟨w.heap.size, 5, none⟩ = some (.int .i64 ta) ∧ V.cell? ⟨w.heap.size, 6, none⟩ = some (.int .i64 qu)) [0,3,3,0,2,0] [0] 1 2 [2,3,4,5] [1,3,4,5] (by kernel_rfl) (by kernel_rfl) i0 ?_
    repeat (first | (refine wpSer_skip rfl rfl ?_) | (refine wpSer_calmE rfl rfl rfl rfl rfl rfl (by first | exact trivial | assumption) ?_; apply Exists.intro; refine ⟨?_, ?_⟩; focus (intro _ _ _ hK; go_step; first | exact hK | (rw [if_pos (by omega)]; go_step; exact hK) | (rw [if_neg (by omega)]; go_step; exact hK))))
    (refine wpSer_nil ?_)
    refine ⟨?_, ?_⟩
    · refine wpSer_opI rfl rfl rfl ?_
      intro _ hK
      go_step
      refine HSET.out.mono ?_
      rintro e V ⟨sb, smb, rfl, hbS, hsb, kV⟩
      have bT := HBT.out.drew.kept kV (fun x => x)
      have iV : V.cell? ⟨w.heap.size, 0, none⟩ = some (.bool sv) ∧ V.cell? ⟨w.heap.size, 1, none⟩ = some (.int .i64 st) ∧ V.cell? ⟨w.heap.size, 2, none⟩ = some (.int .i64 wi) ∧ V.cell? ⟨w.heap.size, 3, none⟩ = some (.int .i64 fr) ∧ V.cell? ⟨w.heap.size, 4, none⟩ = some (.int .i64 li) ∧ V.cell? ⟨w.heap.size, 5, none⟩ = some (.int .i64 ta) ∧ V.cell? ⟨w.heap.size, 6, none⟩ = some (.int .i64 qu) := ⟨(Blk.cell bT 0).trans rfl, (Blk.cell bT 1).trans rfl, (Blk.cell bT 2).trans rfl, (Blk.cell bT 3).trans rfl, (Blk.cell bT 4).trans rfl, (Blk.cell bT 5).trans rfl, (Blk.cell bT 6).trans rfl⟩
      have HBS := Lib.hid hbS
      have HKV := Lib.hid (((((Kept.refl (fun _ => False) w).alloc (.cells #[.bool sv, .int .i64 st, .int .i64 wi, .int .i64 fr, .int .i64 li, .int .i64 ta, .int .i64 qu] 23)).drew).trans kV))
      have HBTV := Lib.hid bT
      have hsb' : w.heap.size ≤ sb := by have h : w.heap.size + 1 ≤ sb := by simpa using hsb
                                         omega
      clear hbS kV bT hsb
      refine hK _ _ iV ?_
      clear hK i0
      (refine wpSer_opI rfl rfl rfl ?_; intro _ hK; go_step; (try first | (rw [if_pos (by omega)]; go_step) | (rw [if_neg (by omega)]; go_step)); refine (fun (h : _ ∧ _) => hK _ _ h.1 h.2) (inv_then ?_ (fun _ => ?_)); all_goals clear hK)
      · exact ⟨(Blk.cell (HBTV.out.alloc (.map #[] 0)) 0).trans rfl, (Blk.cell (HBTV.out.alloc (.map #[] 0)) 1).trans rfl, (Blk.cell (HBTV.out.alloc (.map #[] 0)) 2).trans rfl, (Blk.cell (HBTV.out.alloc (.map #[] 0)) 3).trans rfl, (Blk.cell (HBTV.out.alloc (.map #[] 0)) 4).trans rfl, (Blk.cell (HBTV.out.alloc (.map #[] 0)) 5).trans rfl, (Blk.cell (HBTV.out.alloc (.map #[] 0)) 6).trans rfl⟩
      (refine wpSer_calmE rfl rfl rfl rfl rfl rfl (by first | exact trivial | assumption) ?_; apply Exists.intro; refine ⟨?_, ?_⟩; focus (intro _ _ _ hK; go_step; first | exact hK | (rw [if_pos (by omega)]; go_step; exact hK) | (rw [if_neg (by omega)]; go_step; exact hK)))
      (refine wpSer_opI rfl rfl rfl ?_; intro _ hK; go_step; (try first | (rw [if_pos (by omega)]; go_step) | (rw [if_neg (by omega)]; go_step)); refine (fun (h : _ ∧ _) => hK _ _ h.1 h.2) (inv_then ?_ (fun _ => ?_)); all_goals clear hK)
      · exact ⟨(Blk.cell ((HBTV.out.alloc (.map #[] 0)).alloc (.cells #[.bool sv, .int .i64 st, .int .i64 wi, .int .i64 fr, .int .i64 li, .int .i64 ta, .int .i64 qu, .string ByteArray.empty, .pointer none, .pointer none, .pointer none, .pointer none, .pointer (some ⟨sb, 0, none⟩), .pointer none, .pointer none, .pointer none, .map (some V.heap.size), .slice none 0 0, .nilFunc, .bool false, .bool false, .bool false, .bool false, .int .i64 (-1), .int .i64 0] 47)) 0).trans rfl, (Blk.cell ((HBTV.out.alloc (.map #[] 0)).alloc (.cells #[.bool sv, .int .i64 st, .int .i64 wi, .int .i64 fr, .int .i64 li, .int .i64 ta, .int .i64 qu, .string ByteArray.empty, .pointer none, .pointer none, .pointer none, .pointer none, .pointer (some ⟨sb, 0, none⟩), .pointer none, .pointer none, .pointer none, .map (some V.heap.size), .slice none 0 0, .nilFunc, .bool false, .bool false, .bool false, .bool false, .int .i64 (-1), .int .i64 0] 47)) 1).trans rfl, (Blk.cell ((HBTV.out.alloc (.map #[] 0)).alloc (.cells #[.bool sv, .int .i64 st, .int .i64 wi, .int .i64 fr, .int .i64 li, .int .i64 ta, .int .i64 qu, .string ByteArray.empty, .pointer none, .pointer none, .pointer none, .pointer none, .pointer (some ⟨sb, 0, none⟩), .pointer none, .pointer none, .pointer none, .map (some V.heap.size), .slice none 0 0, .nilFunc, .bool false, .bool false, .bool false, .bool false, .int .i64 (-1), .int .i64 0] 47)) 2).trans rfl, (Blk.cell ((HBTV.out.alloc (.map #[] 0)).alloc (.cells #[.bool sv, .int .i64 st, .int .i64 wi, .int .i64 fr, .int .i64 li, .int .i64 ta, .int .i64 qu, .string ByteArray.empty, .pointer none, .pointer none, .pointer none, .pointer none, .pointer (some ⟨sb, 0, none⟩), .pointer none, .pointer none, .pointer none, .map (some V.heap.size), .slice none 0 0, .nilFunc, .bool false, .bool false, .bool false, .bool false, .int .i64 (-1), .int .i64 0] 47)) 3).trans rfl, (Blk.cell ((HBTV.out.alloc (.map #[] 0)).alloc (.cells #[.bool sv, .int .i64 st, .int .i64 wi, .int .i64 fr, .int .i64 li, .int .i64 ta, .int .i64 qu, .string ByteArray.empty, .pointer none, .pointer none, .pointer none, .pointer none, .pointer (some ⟨sb, 0, none⟩), .pointer none, .pointer none, .pointer none, .map (some V.heap.size), .slice none 0 0, .nilFunc, .bool false, .bool false, .bool false, .bool false, .int .i64 (-1), .int .i64 0] 47)) 4).trans rfl, (Blk.cell ((HBTV.out.alloc (.map #[] 0)).alloc (.cells #[.bool sv, .int .i64 st, .int .i64 wi, .int .i64 fr, .int .i64 li, .int .i64 ta, .int .i64 qu, .string ByteArray.empty, .pointer none, .pointer none, .pointer none, .pointer none, .pointer (some ⟨sb, 0, none⟩), .pointer none, .pointer none, .pointer none, .map (some V.heap.size), .slice none 0 0, .nilFunc, .bool false, .bool false, .bool false, .bool false, .int .i64 (-1), .int .i64 0] 47)) 5).trans rfl, (Blk.cell ((HBTV.out.alloc (.map #[] 0)).alloc (.cells #[.bool sv, .int .i64 st, .int .i64 wi, .int .i64 fr, .int .i64 li, .int .i64 ta, .int .i64 qu, .string ByteArray.empty, .pointer none, .pointer none, .pointer none, .pointer none, .pointer (some ⟨sb, 0, none⟩), .pointer none, .pointer none, .pointer none, .map (some V.heap.size), .slice none 0 0, .nilFunc, .bool false, .bool false, .bool false, .bool false, .int .i64 (-1), .int .i64 0] 47)) 6).trans rfl⟩
      (refine wpSer_calmE rfl rfl rfl rfl rfl rfl (by first | exact trivial | assumption) ?_; apply Exists.intro; refine ⟨?_, ?_⟩; focus (intro _ _ _ hK; go_step; first | exact hK | (rw [if_pos (by omega)]; go_step; exact hK) | (rw [if_neg (by omega)]; go_step; exact hK)))
      (refine wpSer_nil ?_)
      go_wp2_with fail
      go_meet
      have s0 := HKV.out.size
      exact ⟨_, sb, smb, V.heap.size, rfl, ⟨Blk.new' _ _ _ (by simp), (HBTV.out.alloc _).alloc _, (HBS.out.alloc _).alloc _, (MapB.new encI V).kept ((Kept.refl (fun _ => False) _).alloc _) (fun x => x), by omega, hsb', (HKV.out.alloc _).alloc _⟩⟩
    · refine wpSer_opI rfl rfl rfl ?_
      intro _ hK
      go_step
      have iM : ((w.alloc (.cells #[.bool sv, .int .i64 st, .int .i64 wi, .int .i64 fr, .int .i64 li, .int .i64 ta, .int .i64 qu] 23)).alloc (.map #[] 0)).drew.cell? ⟨w.heap.size, 0, none⟩ = some (.bool sv) ∧ ((w.alloc (.cells #[.bool sv, .int .i64 st, .int .i64 wi, .int .i64 fr, .int .i64 li, .int .i64 ta, .int .i64 qu] 23)).alloc (.map #[] 0)).drew.cell? ⟨w.heap.size, 1, none⟩ = some (.int .i64 st) ∧ ((w.alloc (.cells #[.bool sv, .int .i64 st, .int .i64 wi, .int .i64 fr, .int .i64 li, .int .i64 ta, .int .i64 qu] 23)).alloc (.map #[] 0)).drew.cell? ⟨w.heap.size, 2, none⟩ = some (.int .i64 wi) ∧ ((w.alloc (.cells #[.bool sv, .int .i64 st, .int .i64 wi, .int .i64 fr, .int .i64 li, .int .i64 ta, .int .i64 qu] 23)).alloc (.map #[] 0)).drew.cell? ⟨w.heap.size, 3, none⟩ = some (.int .i64 fr) ∧ ((w.alloc (.cells #[.bool sv, .int .i64 st, .int .i64 wi, .int .i64 fr, .int .i64 li, .int .i64 ta, .int .i64 qu] 23)).alloc (.map #[] 0)).drew.cell? ⟨w.heap.size, 4, none⟩ = some (.int .i64 li) ∧ ((w.alloc (.cells #[.bool sv, .int .i64 st, .int .i64 wi, .int .i64 fr, .int .i64 li, .int .i64 ta, .int .i64 qu] 23)).alloc (.map #[] 0)).drew.cell? ⟨w.heap.size, 5, none⟩ = some (.int .i64 ta) ∧ ((w.alloc (.cells #[.bool sv, .int .i64 st, .int .i64 wi, .int .i64 fr, .int .i64 li, .int .i64 ta, .int .i64 qu] 23)).alloc (.map #[] 0)).drew.cell? ⟨w.heap.size, 6, none⟩ = some (.int .i64 qu) := ⟨(Blk.cell ((HBT.out.alloc (.map #[] 0)).drew) 0).trans rfl, (Blk.cell ((HBT.out.alloc (.map #[] 0)).drew) 1).trans rfl, (Blk.cell ((HBT.out.alloc (.map #[] 0)).drew) 2).trans rfl, (Blk.cell ((HBT.out.alloc (.map #[] 0)).drew) 3).trans rfl, (Blk.cell ((HBT.out.alloc (.map #[] 0)).drew) 4).trans rfl, (Blk.cell ((HBT.out.alloc (.map #[] 0)).drew) 5).trans rfl, (Blk.cell ((HBT.out.alloc (.map #[] 0)).drew) 6).trans rfl⟩
      refine hK _ _ iM ?_
      clear hK i0
      refine wpSer_opI rfl rfl rfl ?_
      intro _ hK
      go_step
      refine HSET2.out.mono ?_
      rintro e V ⟨sb, smb, rfl, hbS, hsb, kV⟩
      have bT := ((HBT.out.alloc (.map #[] 0)).drew).kept kV (fun x => x)
      have iV : V.cell? ⟨w.heap.size, 0, none⟩ = some (.bool sv) ∧ V.cell? ⟨w.heap.size, 1, none⟩ = some (.int .i64 st) ∧ V.cell? ⟨w.heap.size, 2, none⟩ = some (.int .i64 wi) ∧ V.cell? ⟨w.heap.size, 3, none⟩ = some (.int .i64 fr) ∧ V.cell? ⟨w.heap.size, 4, none⟩ = some (.int .i64 li) ∧ V.cell? ⟨w.heap.size, 5, none⟩ = some (.int .i64 ta) ∧ V.cell? ⟨w.heap.size, 6, none⟩ = some (.int .i64 qu) := ⟨(Blk.cell bT 0).trans rfl, (Blk.cell bT 1).trans rfl, (Blk.cell bT 2).trans rfl, (Blk.cell bT 3).trans rfl, (Blk.cell bT 4).trans rfl, (Blk.cell bT 5).trans rfl, (Blk.cell bT 6).trans rfl⟩
      have HBS := Lib.hid hbS
      have hM : MapB encI V (w.heap.size + 1) [] := by
        have h := ((MapB.new encI (w.alloc (.cells #[.bool sv, .int .i64 st, .int .i64 wi, .int .i64 fr, .int .i64 li, .int .i64 ta, .int .i64 qu] 23))).kept (Kept.refl (fun _ => False) _).drew (fun x => x)).kept kV (fun x => x)
        simpa using h
      have HM := Lib.hid hM
      have HKV := Lib.hid ((((((Kept.refl (fun _ => False) w).alloc (.cells #[.bool sv, .int .i64 st, .int .i64 wi, .int .i64 fr, .int .i64 li, .int .i64 ta, .int .i64 qu] 23)).alloc (.map #[] 0)).drew).trans kV))
      have HBTV := Lib.hid bT
      have hsb' : w.heap.size ≤ sb := by have h : w.heap.size + 1 + 1 ≤ sb := by simpa using hsb
                                         omega
      clear hbS kV bT hsb hM
      refine hK _ _ iV ?_
      clear hK iM
      (refine wpSer_calmE rfl rfl rfl rfl rfl rfl (by first | exact trivial | assumption) ?_; apply Exists.intro; refine ⟨?_, ?_⟩; focus (intro _ _ _ hK; go_step; first | exact hK | (rw [if_pos (by omega)]; go_step; exact hK) | (rw [if_neg (by omega)]; go_step; exact hK)))
      (refine wpSer_opI rfl rfl rfl ?_; intro _ hK; go_step; (try first | (rw [if_pos (by omega)]; go_step) | (rw [if_neg (by omega)]; go_step)); refine (fun (h : _ ∧ _) => hK _ _ h.1 h.2) (inv_then ?_ (fun _ => ?_)); all_goals clear hK)
      · exact ⟨(Blk.cell (HBTV.out.alloc (.cells #[.bool sv, .int .i64 st, .int .i64 wi, .int .i64 fr, .int .i64 li, .int .i64 ta, .int .i64 qu, .string ByteArray.empty, .pointer none, .pointer none, .pointer none, .pointer none, .pointer (some ⟨sb, 0, none⟩), .pointer none, .pointer none, .pointer none, .map (some (w.heap.size + 1)), .slice none 0 0, .nilFunc, .bool false, .bool false, .bool false, .bool false, .int .i64 (-1), .int .i64 0] 47)) 0).trans rfl, (Blk.cell (HBTV.out.alloc (.cells #[.bool sv, .int .i64 st, .int .i64 wi, .int .i64 fr, .int .i64 li, .int .i64 ta, .int .i64 qu, .string ByteArray.empty, .pointer none, .pointer none, .pointer none, .pointer none, .pointer (some ⟨sb, 0, none⟩), .pointer none, .pointer none, .pointer none, .map (some (w.heap.size + 1)), .slice none 0 0, .nilFunc, .bool false, .bool false, .bool false, .bool false, .int .i64 (-1), .int .i64 0] 47)) 1).trans rfl, (Blk.cell (HBTV.out.alloc (.cells #[.bool sv, .int .i64 st, .int .i64 wi, .int .i64 fr, .int .i64 li, .int .i64 ta, .int .i64 qu, .string ByteArray.empty, .pointer none, .pointer none, .pointer none, .pointer none, .pointer (some ⟨sb, 0, none⟩), .pointer none, .pointer none, .pointer none, .map (some (w.heap.size + 1)), .slice none 0 0, .nilFunc, .bool false, .bool false, .bool false, .bool false, .int .i64 (-1), .int .i64 0] 47)) 2).trans rfl, (Blk.cell (HBTV.out.alloc (.cells #[.bool sv, .int .i64 st, .int .i64 wi, .int .i64 fr, .int .i64 li, .int .i64 ta, .int .i64 qu, .string ByteArray.empty, .pointer none, .pointer none, .pointer none, .pointer none, .pointer (some ⟨sb, 0, none⟩), .pointer none, .pointer none, .pointer none, .map (some (w.heap.size + 1)), .slice none 0 0, .nilFunc, .bool false, .bool false, .bool false, .bool false, .int .i64 (-1), .int .i64 0] 47)) 3).trans rfl, (Blk.cell (HBTV.out.alloc (.cells #[.bool sv, .int .i64 st, .int .i64 wi, .int .i64 fr, .int .i64 li, .int .i64 ta, .int .i64 qu, .string ByteArray.empty, .pointer none, .pointer none, .pointer none, .pointer none, .pointer (some ⟨sb, 0, none⟩), .pointer none, .pointer none, .pointer none, .map (some (w.heap.size + 1)), .slice none 0 0, .nilFunc, .bool false, .bool false, .bool false, .bool false, .int .i64 (-1), .int .i64 0] 47)) 4).trans rfl, (Blk.cell (HBTV.out.alloc (.cells #[.bool sv, .int .i64 st, .int .i64 wi, .int .i64 fr, .int .i64 li, .int .i64 ta, .int .i64 qu, .string ByteArray.empty, .pointer none, .pointer none, .pointer none, .pointer none, .pointer (some ⟨sb, 0, none⟩), .pointer none, .pointer none, .pointer none, .map (some (w.heap.size + 1)), .slice none 0 0, .nilFunc, .bool false, .bool false, .bool false, .bool false, .int .i64 (-1), .int .i64 0] 47)) 5).trans rfl, (Blk.cell (HBTV.out.alloc (.cells #[.bool sv, .int .i64 st, .int .i64 wi, .int .i64 fr, .int .i64 li, .int .i64 ta, .int .i64 qu, .string ByteArray.empty, .pointer none, .pointer none, .pointer none, .pointer none, .pointer (some ⟨sb, 0, none⟩), .pointer none, .pointer none, .pointer none, .map (some (w.heap.size + 1)), .slice none 0 0, .nilFunc, .bool false, .bool false, .bool false, .bool false, .int .i64 (-1), .int .i64 0] 47)) 6).trans rfl⟩
      (refine wpSer_calmE rfl rfl rfl rfl rfl rfl (by first | exact trivial | assumption) ?_; apply Exists.intro; refine ⟨?_, ?_⟩; focus (intro _ _ _ hK; go_step; first | exact hK | (rw [if_pos (by omega)]; go_step; exact hK) | (rw [if_neg (by omega)]; go_step; exact hK)))
      (refine wpSer_nil ?_)
      go_wp2_with fail
      go_meet
      have s0 := HKV.out.size
      exact ⟨_, sb, smb, w.heap.size + 1, rfl, ⟨Blk.new _ _ _, HBTV.out.alloc _, HBS.out.alloc _, HM.out.kept ((Kept.refl (fun _ => False) _).alloc _) (fun x => x), by omega, hsb', HKV.out.alloc _⟩⟩
  case rest =>
    obtain ⟨cb, sb, smb, mb, rfl, g⟩ := hcut
    have G0 := Lib.hid g
    obtain ⟨t0, t1, t2, t3, t4, t5⟩ := g.box
    have hfr1 : 16384 ≤ fr := HH.out.2.2.1.1
    have hfr2 : fr ≤ 16777215 := HH.out.2.2.1.2
    have hta1 : 0 ≤ ta := HH.out.2.2.2.2.1.1
    have hta2 : ta ≤ 65536 := HH.out.2.2.2.2.1.2
    have hli1 : 0 ≤ li := HH.out.2.2.2.1.1
    have hst1 : 0 ≤ st := HH.out.1.1
    have hst2 : st ≤ 1024 := HH.out.1.2
    clear g HBT hmm
    go_wp2_with fail
    refine (reader_New fr _ hfr1 hfr2).mono ?_
    rintro e v1 ⟨b1, rfl, hb1, k1⟩
    have g1 := G0.out.step k1
    have G1 := Lib.hid (g1.setc 8 (.pointer (some ⟨b1, 0, none⟩)))
    have c1 : v1.cell? ⟨cb, 8, none⟩ = some (.pointer none) := (Blk.cell g1.c 8).trans rfl
    have f1 : v1.frozen? ⟨cb, 8, none⟩ = false := Blk.frozen g1.c 8
    clear g1 k1 hb1 t0 t1 t2 t3 t4 t5
    obtain ⟨t0, t1, t2, t3, t4, t5⟩ := G1.out.box
    go_wp2_with fail
    clear c1 f1
    refine (block_New _).mono ?_
    rintro e v2 ⟨b2, rfl, hb2, k2⟩
    have g2 := G1.out.step k2
    have G2 := Lib.hid (g2.setc 9 (.pointer (some ⟨b2, 0, none⟩)))
    have c2 : v2.cell? ⟨cb, 9, none⟩ = some (.pointer none) := (Blk.cell g2.c 9).trans rfl
    have f2 : v2.frozen? ⟨cb, 9, none⟩ = false := Blk.frozen g2.c 9
    clear g2 k2 hb2 t0 t1 t2 t3 t4 t5
    obtain ⟨t0, t1, t2, t3, t4, t5⟩ := G2.out.box
    go_wp2_with fail
    clear c2 f2
    refine (hpack_NewDecoder ta li _ hta1 hta2 hli1).mono ?_
    rintro e v3 ⟨b3, rfl, hb3, k3⟩
    have g3 := G2.out.step k3
    have G3 := Lib.hid (g3.setc 10 (.pointer (some ⟨b3, 0, none⟩)))
    have c3 : v3.cell? ⟨cb, 10, none⟩ = some (.pointer none) := (Blk.cell g3.c 10).trans rfl
    have f3 : v3.frozen? ⟨cb, 10, none⟩ = false := Blk.frozen g3.c 10
    clear g3 k3 hb3 t0 t1 t2 t3 t4 t5
    obtain ⟨t0, t1, t2, t3, t4, t5⟩ := G3.out.box
    go_wp2_with fail
    clear c3 f3
    refine (hpack_NewEncoder _).mono ?_
    rintro e v4 ⟨b4, rfl, hb4, k4⟩
    have g4 := G3.out.step k4
    have G4 := Lib.hid (g4.setc 11 (.pointer (some ⟨b4, 0, none⟩)))
    have c4 : v4.cell? ⟨cb, 11, none⟩ = some (.pointer none) := (Blk.cell g4.c 11).trans rfl
    have f4 : v4.frozen? ⟨cb, 11, none⟩ = false := Blk.frozen g4.c 11
    clear g4 k4 hb4 t0 t1 t2 t3 t4 t5
    obtain ⟨t0, t1, t2, t3, t4, t5⟩ := G4.out.box
    go_wp2_with fail
    clear c4 f4
    refine (stream_New sv st _ hst1 hst2).mono ?_
    rintro e v5 ⟨b5, rfl, hb5, k5⟩
    have g5 := G4.out.step k5
    have G5 := Lib.hid (g5.setc 13 (.pointer (some ⟨b5, 0, none⟩)))
    have c5 : v5.cell? ⟨cb, 13, none⟩ = some (.pointer none) := (Blk.cell g5.c 13).trans rfl
    have f5 : v5.frozen? ⟨cb, 13, none⟩ = false := Blk.frozen g5.c 13
    clear g5 k5 hb5 t0 t1 t2 t3 t4 t5
    obtain ⟨t0, t1, t2, t3, t4, t5⟩ := G5.out.box
    go_wp2_with fail
    clear c5 f5
    refine (window_New _).mono ?_
    rintro e v6 ⟨b6, rfl, hb6, k6⟩
    have g6 := G5.out.step k6
    have G6 := Lib.hid (g6.setc 14 (.pointer (some ⟨b6, 0, none⟩)))
    have c6 : v6.cell? ⟨cb, 14, none⟩ = some (.pointer none) := (Blk.cell g6.c 14).trans rfl
    have f6 : v6.frozen? ⟨cb, 14, none⟩ = false := Blk.frozen g6.c 14
    clear g6 k6 hb6 t0 t1 t2 t3 t4 t5
    obtain ⟨t0, t1, t2, t3, t4, t5⟩ := G6.out.box
    go_wp2_with fail
    clear c6 f6
    refine (window_NewCredit _).mono ?_
    rintro e v7 ⟨b7, rfl, hb7, k7⟩
    have g7 := G6.out.step k7
    have G7 := Lib.hid (g7.setc 15 (.pointer (some ⟨b7, 0, none⟩)))
    have c7 : v7.cell? ⟨cb, 15, none⟩ = some (.pointer none) := (Blk.cell g7.c 15).trans rfl
    have f7 : v7.frozen? ⟨cb, 15, none⟩ = false := Blk.frozen g7.c 15
    clear g7 k7 hb7 t0 t1 t2 t3 t4 t5
    obtain ⟨t0, t1, t2, t3, t4, t5⟩ := G7.out.box
    go_wp2_with fail
    clear c7 f7
    clear t0 t1 t2 t3 t4 t5
    cases sv
    · have hgr := conn_greetings_client (st := st) (wi := wi) (fr := fr) (li := li) (ta := ta) (qu := qu) (p1 := .pointer (some ⟨b1, 0, none⟩)) (p2 := .pointer (some ⟨b2, 0, none⟩)) (p3 := .pointer (some ⟨b3, 0, none⟩)) (p4 := .pointer (some ⟨b4, 0, none⟩)) (p5 := .pointer (some ⟨b5, 0, none⟩)) (p6 := .pointer (some ⟨b6, 0, none⟩)) (p7 := .pointer (some ⟨b7, 0, none⟩)) (sb := sb) (mb := mb) G7.out.c G7.out.s
      have HGR := Lib.hid hgr
      clear hgr
      refine HGR.out.mono ?_
      rintro e w9 ⟨cs', wv, n, ys, rfl, hb9, hy9, hn1, hn2, hcs, hk9⟩
      have HB9 := Lib.hid hb9
      have HY9 := Lib.hid hy9
      have HCS := Lib.hid hcs
      have HK9 := Lib.hid hk9
      clear hb9 hy9 hcs hk9
      go_wp2_with fail
      go_ret2
      have m1 := G7.out.n1
      have m2 := G7.out.n2
      refine ⟨cb, _, false, b1, mb, wv, n, ys, rfl, ConnAt.of HCS.out rfl rfl rfl rfl rfl rfl HB9.out (G7.out.m.kept HK9.out (fun h => ?_)) HY9.out ?_ hn2, G7.out.k.trans' HK9.out (fun q hq h => ?_)⟩
      · rcases h with h | h
        · exact G7.out.m.is.ne_blk G7.out.c h
        · exact G7.out.m.is.ne_blk G7.out.s h
      · rw [HLE.out]; simpa using hn1
      · rcases h with h | h <;> omega
    · have hgr := conn_greetings_server (st := st) (wi := wi) (fr := fr) (li := li) (ta := ta) (qu := qu) (p1 := .pointer (some ⟨b1, 0, none⟩)) (p2 := .pointer (some ⟨b2, 0, none⟩)) (p3 := .pointer (some ⟨b3, 0, none⟩)) (p4 := .pointer (some ⟨b4, 0, none⟩)) (p5 := .pointer (some ⟨b5, 0, none⟩)) (p6 := .pointer (some ⟨b6, 0, none⟩)) (p7 := .pointer (some ⟨b7, 0, none⟩)) (sb := sb) (mb := mb) G7.out.c G7.out.s
      have HGR := Lib.hid hgr
      clear hgr
      refine HGR.out.mono ?_
      rintro e w9 ⟨cs', wv, n, ys, rfl, hb9, hy9, hn1, hn2, hcs, hk9⟩
      have HB9 := Lib.hid hb9
      have HY9 := Lib.hid hy9
      have HCS := Lib.hid hcs
      have HK9 := Lib.hid hk9
      clear hb9 hy9 hcs hk9
      go_wp2_with fail
      go_ret2
      have m1 := G7.out.n1
      have m2 := G7.out.n2
      refine ⟨cb, _, true, b1, mb, wv, n, ys, rfl, ConnAt.of HCS.out rfl rfl rfl rfl rfl rfl HB9.out (G7.out.m.kept HK9.out (fun h => ?_)) HY9.out ?_ hn2, G7.out.k.trans' HK9.out (fun q hq h => ?_)⟩
      · rcases h with h | h
        · exact G7.out.m.is.ne_blk G7.out.c h
        · exact G7.out.m.is.ne_blk G7.out.s h
      · rw [HLE.out]; simpa using hn1
      · rcases h with h | h <;> omega
end Go.Proofs.YtchgieogdinglaaGreat
