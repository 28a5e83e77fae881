/- ConnSetups: greetings, walked. -/
import Derived.Test.YtchgieogdinglaaGreatCsI
import Derived.Lib.SlBytesConst
set_option linter.unusedSimpArgs false
set_option linter.unusedVariables false
namespace Go.Proofs.YtchgieogdinglaaGreat
open Go.RowKit
open Ser

/-- A connection behind its greetings. -/
def Greeted (w : World) (cb sb : Nat) (cs : Array Value) (least : Nat) (e : Ending) (w' : World) : Prop :=
  ∃ cs' wv n ys, e = .returned (.tuple #[]) ∧ Blk w' cb 47 (cs'.setIfInBounds 17 wv) ∧ RY w' wv n ys ∧ least ≤ n ∧ n ≤ 8000 ∧ (cs' = cs ∨ ∃ i u, (i = 7 ∨ i = 17) ∧ cs' = cs.setIfInBounds i u) ∧ Kept (fun q => q = cb ∨ q = sb) w w'

section
variable {w : World} {cb sb smb mb : Nat} {st wi fr li ta qu : Int} {p1 p2 p3 p4 p5 p6 p7 : Value}
set_option maxHeartbeats 2000000 in
set_option maxRecDepth 100000 in
theorem conn_greetings_server (hc : Blk w cb 47 #[.bool true, .int .i64 st, .int .i64 wi, .int .i64 fr, .int .i64 li, .int .i64 ta, .int .i64 qu, .string ByteArray.empty, p1, p2, p3, p4, .pointer (some ⟨sb, 0, none⟩), p5, p6, p7, .map (some mb), .slice none 0 0, .nilFunc, .bool false, .bool false, .bool false, .bool false, .int .i64 (-1), .int .i64 0])
    (hs : Blk w sb 74 #[.map (some smb), .slice none 0 0]) :
    Calls Tryz.prog 19 #[.pointer (some ⟨cb, 0, none⟩)] w (Greeted w cb sb #[.bool true, .int .i64 st, .int .i64 wi, .int .i64 fr, .int .i64 li, .int .i64 ta, .int .i64 qu, .string ByteArray.empty, p1, p2, p3, p4, .pointer (some ⟨sb, 0, none⟩), p5, p6, p7, .map (some mb), .slice none 0 0, .nilFunc, .bool false, .bool false, .bool false, .bool false, .int .i64 (-1), .int .i64 0] 1) := by
  have c0 : w.cell? ⟨cb, 0, none⟩ = some (.bool true) := (Blk.cell hc 0).trans rfl
  have c1 : w.cell? ⟨cb, 1, none⟩ = some (.int .i64 st) := (Blk.cell hc 1).trans rfl
  have c2 : w.cell? ⟨cb, 2, none⟩ = some (.int .i64 wi) := (Blk.cell hc 2).trans rfl
  have c3 : w.cell? ⟨cb, 3, none⟩ = some (.int .i64 fr) := (Blk.cell hc 3).trans rfl
  have c4 : w.cell? ⟨cb, 4, none⟩ = some (.int .i64 li) := (Blk.cell hc 4).trans rfl
  have c5 : w.cell? ⟨cb, 5, none⟩ = some (.int .i64 ta) := (Blk.cell hc 5).trans rfl
  have c6 : w.cell? ⟨cb, 6, none⟩ = some (.int .i64 qu) := (Blk.cell hc 6).trans rfl
  have g0 : GS w (w.alloc (.cells (Box true st wi fr li ta qu) 23)) cb _ w.heap.size true st wi fr li ta qu sb smb (.slice none 0 0) [] := ⟨hc.alloc _, Blk.new _ _ _, hs.alloc _, RS.nil _, by simp [Value.ownBlock], (Kept.refl _ _).alloc _⟩
  have G0 := Lib.hid g0
  have HC := Lib.hid hc
  have hcb := Blk.lt hc
  clear g0 hc hs
  go_enter Tryz.func19, Tryz.ntmps19
  go_wp2_with fail
  refine (conn_set 1 ta _).mono ?_
  rintro e w1 ⟨⟨x1, rfl⟩, k1⟩
  have h1 := (G0.out.step k1)
  have h1b := h1.push (SS.laid w1 [(1, x1)] (by simp)) ((Kept.refl _ _).alloc _) (fun q hq => by simp [Value.ownBlock] at hq; right; omega)
  have cc : (w1.alloc (.cells #[.int .i64 1, .int .u32 x1] 110)).cell? ⟨cb, 7, none⟩ = some (.string ByteArray.empty) := (Blk.cell h1b.c 7).trans rfl
  have ff : (w1.alloc (.cells #[.int .i64 1, .int .u32 x1] 110)).frozen? ⟨cb, 7, none⟩ = false := Blk.frozen h1b.c 7
  have t0 : (w1.alloc (.cells #[.int .i64 1, .int .u32 x1] 110)).cell? ⟨w.heap.size, 0, none⟩ = some (.bool true) := h1b.box.1
  have h2 := h1b.setc 7 (.string { data := #[80, 82, 73, 32, 42, 32, 72, 84, 84, 80, 47, 50, 46, 48, 13, 10, 13, 10, 83, 77, 13, 10, 13, 10] })
  have t1 : ((w1.alloc (.cells #[.int .i64 1, .int .u32 x1] 110)).setCell ⟨cb, 7, none⟩ (.string { data := #[80, 82, 73, 32, 42, 32, 72, 84, 84, 80, 47, 50, 46, 48, 13, 10, 13, 10, 83, 77, 13, 10, 13, 10] })).cell? ⟨w.heap.size, 1, none⟩ = some (.int .i64 st) := h2.box.2.1
  have H2 := Lib.hid h2
  clear h1 h1b h2 k1 c0 c1 c2 c3 c4 c5 c6
  go_wp2_with fail
  refine (conn_set 3 st _).mono ?_
  rintro e w2 ⟨⟨x2, rfl⟩, k2⟩
  have H3 := Lib.hid (H2.out.step (k2.trans ((Kept.refl _ _).alloc (.cells #[.int .i64 3, .int .u32 x2] 110))))
  clear k2 cc ff t0 t1
  go_wp2_with (at_builtin; refine wpList_pushS rfl _ _ _ rfl (.slice (some ⟨w1.heap.size, 0, none⟩) 1 1) [(1, x1)] rfl H3.out.l w2.heap.size 1 1 [(3, x2)] rfl rfl (fun j u hu => laid_cells w2 [(3, x2)] j u hu) (by simp) ?_)
  intro v3 w3 s3 k3 o3
  have H4 := Lib.hid (H3.out.push s3 k3 (fun q hq => (o3 q hq).imp (fun h => h) (fun h => by (try simp at h ⊢); omega)))
  have s3' := H4.out.l
  obtain ⟨g3, cap3, hv3, _⟩ := s3'.cells' (by simp)
  obtain rfl : v3 = .slice (some ⟨g3, 0, none⟩) 2 cap3 := hv3
  have bx := H4.out.box
  have i3 : w3.drew.cell? ⟨w.heap.size, 2, none⟩ = some (.int .i64 wi) ∧ w3.drew.cell? ⟨w.heap.size, 3, none⟩ = some (.int .i64 fr) ∧ w3.drew.cell? ⟨w.heap.size, 4, none⟩ = some (.int .i64 li) := ⟨bx.2.2.1, bx.2.2.2.1, bx.2.2.2.2.1⟩
  clear s3 k3 o3 bx s3'
  go_wp2_with fail
  refine wp_region_serI (fun V => V.cell? ⟨w.heap.size, 2, none⟩ = some (.int .i64 wi) ∧ V.cell? ⟨w.heap.size, 3, none⟩ = some (.int .i64 fr) ∧ V.cell? ⟨w.heap.size, 4, none⟩ = some (.int .i64 li)) [0,0,0,0,3,0,0,0,3,0,0,0,3,2,3,0] [0,1,2,3,4,5,6,7,8,9,10,11,12,13,14,15] (by kernel_rfl) (by kernel_rfl) i3 ?_
  repeat (first | (refine wpSer_skip rfl rfl ?_) | (refine wpSer_calmE rfl rfl rfl rfl rfl rfl (by first | exact trivial | assumption) ?_; apply Exists.intro; refine ⟨?_, ?_⟩; focus (intro _ _ _ hK; go_step; first | exact hK | (rw [if_pos (by omega)]; go_step; exact hK) | (rw [if_neg (by omega)]; go_step; exact hK))))
  have J3 := Lib.hid (((Kept.refl (fun _ => False) w3)).drew)
  refine wpSer_opI rfl rfl rfl ?_
  intro _ hK
  go_step
  refine (conn_set 4 wi _).mono ?_
  rintro e u4 ⟨⟨y4, rfl⟩, j4⟩
  have J4 := Lib.hid (J3.out.trans j4)
  have b4 := (H4.out.step J4.out).box
  have i4 : u4.cell? ⟨w.heap.size, 2, none⟩ = some (.int .i64 wi) ∧ u4.cell? ⟨w.heap.size, 3, none⟩ = some (.int .i64 fr) ∧ u4.cell? ⟨w.heap.size, 4, none⟩ = some (.int .i64 li) := ⟨b4.2.2.1, b4.2.2.2.1, b4.2.2.2.2.1⟩
  clear b4 j4
  refine hK _ _ i4 ?_
  clear hK i3
  repeat (first | (refine wpSer_skip rfl rfl ?_) | (refine wpSer_calmE rfl rfl rfl rfl rfl rfl (by first | exact trivial | assumption) ?_; apply Exists.intro; refine ⟨?_, ?_⟩; focus (intro _ _ _ hK; go_step; first | exact hK | (rw [if_pos (by omega)]; go_step; exact hK) | (rw [if_neg (by omega)]; go_step; exact hK))))
  refine wpSer_opI rfl rfl rfl ?_
  intro _ hK
  go_step
  refine (conn_set 5 fr _).mono ?_
  rintro e u5 ⟨⟨y5, rfl⟩, j5⟩
  have J5 := Lib.hid (J4.out.trans j5)
  have b5 := (H4.out.step J5.out).box
  have i5 : u5.cell? ⟨w.heap.size, 2, none⟩ = some (.int .i64 wi) ∧ u5.cell? ⟨w.heap.size, 3, none⟩ = some (.int .i64 fr) ∧ u5.cell? ⟨w.heap.size, 4, none⟩ = some (.int .i64 li) := ⟨b5.2.2.1, b5.2.2.2.1, b5.2.2.2.2.1⟩
  clear b5 j5
  refine hK _ _ i5 ?_
  clear hK i4
  repeat (first | (refine wpSer_skip rfl rfl ?_) | (refine wpSer_calmE rfl rfl rfl rfl rfl rfl (by first | exact trivial | assumption) ?_; apply Exists.intro; refine ⟨?_, ?_⟩; focus (intro _ _ _ hK; go_step; first | exact hK | (rw [if_pos (by omega)]; go_step; exact hK) | (rw [if_neg (by omega)]; go_step; exact hK))))
  refine wpSer_opI rfl rfl rfl ?_
  intro _ hK
  go_step
  refine (conn_set 6 li _).mono ?_
  rintro e u6 ⟨⟨y6, rfl⟩, j6⟩
  have J6 := Lib.hid (J5.out.trans j6)
  have b6 := (H4.out.step J6.out).box
  have i6 : u6.cell? ⟨w.heap.size, 2, none⟩ = some (.int .i64 wi) ∧ u6.cell? ⟨w.heap.size, 3, none⟩ = some (.int .i64 fr) ∧ u6.cell? ⟨w.heap.size, 4, none⟩ = some (.int .i64 li) := ⟨b6.2.2.1, b6.2.2.2.1, b6.2.2.2.2.1⟩
  clear b6 j6
  refine hK _ _ i6 ?_
  clear hK i5
  repeat (first | (refine wpSer_skip rfl rfl ?_) | (refine wpSer_calmE rfl rfl rfl rfl rfl rfl (by first | exact trivial | assumption) ?_; apply Exists.intro; refine ⟨?_, ?_⟩; focus (intro _ _ _ hK; go_step; first | exact hK | (rw [if_pos (by omega)]; go_step; exact hK) | (rw [if_neg (by omega)]; go_step; exact hK))))
  (refine wpSer_opI rfl rfl rfl ?_; intro _ hK; go_step; (try first | (rw [if_pos (by omega)]; go_step) | (rw [if_neg (by omega)]; go_step)); refine (fun (h : _ ∧ _) => hK _ _ h.1 h.2) (inv_then ?_ (fun _ => ?_)); all_goals clear hK)
  · have b7 := ((H4.out.step J6.out).step ((Kept.refl _ _).alloc (.cells #[.int .i64 4, .int .u32 y4, .int .i64 5, .int .u32 y5, .int .i64 6, .int .u32 y6] 110))).box
    exact ⟨b7.2.2.1, b7.2.2.2.1, b7.2.2.2.2.1⟩
  refine wpSer_opI rfl rfl rfl ?_
  intro _ hK
  have H7 := Lib.hid ((H4.out.step J6.out).step ((Kept.refl _ _).alloc (.cells #[.int .i64 4, .int .u32 y4, .int .i64 5, .int .u32 y5, .int .i64 6, .int .u32 y6] 110)))
  refine wp_pushS _ _ _ rfl (.slice (some ⟨g3, 0, none⟩) 2 cap3) _ rfl H7.out.l u6.heap.size 3 3 [(4, y4), (5, y5), (6, y6)] rfl rfl (fun j u hu => laid_cells u6 [(4, y4), (5, y5), (6, y6)] j u hu) (by simp) ?_
  intro v8 w8 s8 k8 o8
  have H8 := Lib.hid (H7.out.push s8 k8 (fun q hq => (o8 q hq).imp (fun h => h) (fun h => by (try simp at h ⊢); omega)))
  have b8 := H8.out.box
  have c12 : w8.cell? ⟨cb, 12, none⟩ = some (.pointer (some ⟨sb, 0, none⟩)) := (Blk.cell H8.out.c 12).trans rfl
  obtain ⟨g8, cap8, hv8, _⟩ := s8.cells' (by simp)
  obtain rfl : v8 = .slice (some ⟨g8, 0, none⟩) 5 cap8 := hv8
  have i8 : w8.cell? ⟨w.heap.size, 2, none⟩ = some (.int .i64 wi) ∧ w8.cell? ⟨w.heap.size, 3, none⟩ = some (.int .i64 fr) ∧ w8.cell? ⟨w.heap.size, 4, none⟩ = some (.int .i64 li) := ⟨b8.2.2.1, b8.2.2.2.1, b8.2.2.2.2.1⟩
  refine hK _ _ i8 ?_
  clear hK i6 s8 k8 o8
  have t0 : w8.cell? ⟨w.heap.size, 0, none⟩ = some (.bool true) := b8.1
  clear b8
  repeat (first | (refine wpSer_skip rfl rfl ?_) | (refine wpSer_calmE rfl rfl rfl rfl rfl rfl (by first | exact trivial | assumption) ?_; apply Exists.intro; refine ⟨?_, ?_⟩; focus (intro _ _ _ hK; go_step; first | exact hK | (rw [if_pos (by omega)]; go_step; exact hK) | (rw [if_neg (by omega)]; go_step; exact hK))))
  (refine wpSer_nil ?_)
  go_wp2_with fail
  refine (conn_set 8 1 _).mono ?_
  rintro e w9 ⟨⟨x9, rfl⟩, k9⟩
  have H9 := Lib.hid (H8.out.step (k9.trans ((Kept.refl _ _).alloc (.cells #[.int .i64 8, .int .u32 x9] 110))))
  clear k9 c12 t0
  go_wp2_with (at_builtin; refine wpList_pushS rfl _ _ _ rfl (.slice (some ⟨g8, 0, none⟩) 5 cap8) _ rfl H9.out.l w9.heap.size 1 1 [(8, x9)] rfl rfl (fun j u hu => laid_cells w9 [(8, x9)] j u hu) (by simp) ?_)
  intro v10 w10 s10 k10 o10
  have H10 := Lib.hid (H9.out.push s10 k10 (fun q hq => (o10 q hq).imp (fun h => h) (fun h => by (try simp at h ⊢); omega)))
  have c12 : w10.cell? ⟨cb, 12, none⟩ = some (.pointer (some ⟨sb, 0, none⟩)) := (Blk.cell H10.out.c 12).trans rfl
  obtain ⟨g10, cap10, hv10, _⟩ := s10.cells' (by simp)
  obtain rfl : v10 = .slice (some ⟨g10, 0, none⟩) 6 cap10 := hv10
  clear s10 k10 o10
  have hoff := settings_Offer H10.out.s H10.out.l (by simp) (by simp)
  have HOFF := Lib.hid hoff
  clear hoff
  go_wp2_with fail
  refine HOFF.out.mono ?_
  rintro e w11 ⟨rfl, k11⟩
  have hcs : cb ≠ sb := Blk.ne_ H10.out.c H10.out.s (by decide)
  have c11 := H10.out.c.kept k11 hcs
  have l11 := RS.kept H10.out.l k11 (fun q hq e => RS.ne_blk H10.out.l H10.out.s (by decide) (by rw [hq, e]))
  have hwr := conn_write (wv := .slice none 0 0) (n := 0) (ys := []) c11 rfl (RY.nil _) (by omega) l11 (by simp) (by simp) (by simp)
  have HWR := Lib.hid hwr
  have HK11 := Lib.hid (((H10.out.k.mono (F' := fun q => q = cb ∨ q = sb) (fun _ _ h => .inl h))).trans (k11.mono (fun _ _ h => .inr h)))
  clear hwr k11 c11 l11 c12
  go_wp2_with fail
  refine HWR.out.mono ?_
  rintro e w12 ⟨wv, n, ys, rfl, hb12, hy12, hn1, hn2, hk12, _⟩
  have HB12 := Lib.hid hb12
  have HY12 := Lib.hid hy12
  have HK12 := Lib.hid hk12
  clear hb12 hy12 hk12
  go_wp2_with fail
  go_end0
  exact ⟨_, wv, n, ys, rfl, HB12.out, HY12.out, by omega, hn2, .inr ⟨7, _, .inl rfl, rfl⟩, HK11.out.trans' HK12.out (fun q hq h => by
    rcases h with h | h
    · exact .inl h
    · simp [Value.ownBlock] at h)⟩
set_option maxHeartbeats 2000000 in
set_option maxRecDepth 100000 in
theorem conn_greetings_client (hc : Blk w cb 47 #[.bool false, .int .i64 st, .int .i64 wi, .int .i64 fr, .int .i64 li, .int .i64 ta, .int .i64 qu, .string ByteArray.empty, p1, p2, p3, p4, .pointer (some ⟨sb, 0, none⟩), p5, p6, p7, .map (some mb), .slice none 0 0, .nilFunc, .bool false, .bool false, .bool false, .bool false, .int .i64 (-1), .int .i64 0])
    (hs : Blk w sb 74 #[.map (some smb), .slice none 0 0]) :
    Calls Tryz.prog 19 #[.pointer (some ⟨cb, 0, none⟩)] w (Greeted w cb sb #[.bool false, .int .i64 st, .int .i64 wi, .int .i64 fr, .int .i64 li, .int .i64 ta, .int .i64 qu, .string ByteArray.empty, p1, p2, p3, p4, .pointer (some ⟨sb, 0, none⟩), p5, p6, p7, .map (some mb), .slice none 0 0, .nilFunc, .bool false, .bool false, .bool false, .bool false, .int .i64 (-1), .int .i64 0] 25) := by
  have c0 : w.cell? ⟨cb, 0, none⟩ = some (.bool false) := (Blk.cell hc 0).trans rfl
  have c1 : w.cell? ⟨cb, 1, none⟩ = some (.int .i64 st) := (Blk.cell hc 1).trans rfl
  have c2 : w.cell? ⟨cb, 2, none⟩ = some (.int .i64 wi) := (Blk.cell hc 2).trans rfl
  have c3 : w.cell? ⟨cb, 3, none⟩ = some (.int .i64 fr) := (Blk.cell hc 3).trans rfl
  have c4 : w.cell? ⟨cb, 4, none⟩ = some (.int .i64 li) := (Blk.cell hc 4).trans rfl
  have c5 : w.cell? ⟨cb, 5, none⟩ = some (.int .i64 ta) := (Blk.cell hc 5).trans rfl
  have c6 : w.cell? ⟨cb, 6, none⟩ = some (.int .i64 qu) := (Blk.cell hc 6).trans rfl
  have g0 : GS w (w.alloc (.cells (Box false st wi fr li ta qu) 23)) cb _ w.heap.size false st wi fr li ta qu sb smb (.slice none 0 0) [] := ⟨hc.alloc _, Blk.new _ _ _, hs.alloc _, RS.nil _, by simp [Value.ownBlock], (Kept.refl _ _).alloc _⟩
  have G0 := Lib.hid g0
  have HC := Lib.hid hc
  have hcb := Blk.lt hc
  clear g0 hc hs
  go_enter Tryz.func19, Tryz.ntmps19
  go_wp2_with fail
  refine (conn_set 1 ta _).mono ?_
  rintro e w1 ⟨⟨x1, rfl⟩, k1⟩
  have h1 := (G0.out.step k1)
  have hs1 : w.heap.size < w1.heap.size := by have := k1.size; simp at this; omega
  have h1b := h1.push (SS.laid w1 [(1, x1)] (by simp)) ((Kept.refl _ _).alloc _) (fun q hq => by simp [Value.ownBlock] at hq; right; omega)
  have h1c := h1b.step ((Kept.refl _ _).alloc (.cells #[.int .u8 80, .int .u8 82, .int .u8 73, .int .u8 32, .int .u8 42, .int .u8 32, .int .u8 72, .int .u8 84, .int .u8 84, .int .u8 80, .int .u8 47, .int .u8 50, .int .u8 46, .int .u8 48, .int .u8 13, .int .u8 10, .int .u8 13, .int .u8 10, .int .u8 83, .int .u8 77, .int .u8 13, .int .u8 10, .int .u8 13, .int .u8 10] 5 (24, 25)))
  have kc := Lib.run_convert_bytes_const (P := Tryz.prog) (w1.alloc (.cells #[.int .i64 1, .int .u32 x1] 110)) 44 5 #[.int .u8 80, .int .u8 82, .int .u8 73, .int .u8 32, .int .u8 42, .int .u8 32, .int .u8 72, .int .u8 84, .int .u8 84, .int .u8 80, .int .u8 47, .int .u8 50, .int .u8 46, .int .u8 48, .int .u8 13, .int .u8 10, .int .u8 13, .int .u8 10, .int .u8 83, .int .u8 77, .int .u8 13, .int .u8 10, .int .u8 13, .int .u8 10] 24 24 Tryz.underlying44 Tryz.underlying5
  have yl : Marked ((w1.alloc (.cells #[.int .i64 1, .int .u32 x1] 110)).alloc (.cells #[.int .u8 80, .int .u8 82, .int .u8 73, .int .u8 32, .int .u8 42, .int .u8 32, .int .u8 72, .int .u8 84, .int .u8 84, .int .u8 80, .int .u8 47, .int .u8 50, .int .u8 46, .int .u8 48, .int .u8 13, .int .u8 10, .int .u8 13, .int .u8 10, .int .u8 83, .int .u8 77, .int .u8 13, .int .u8 10, .int .u8 13, .int .u8 10] 5 (24, 25))) (w1.alloc (.cells #[.int .i64 1, .int .u32 x1] 110)).heap.size 24 [.int .u8 80, .int .u8 82, .int .u8 73, .int .u8 32, .int .u8 42, .int .u8 32, .int .u8 72, .int .u8 84, .int .u8 84, .int .u8 80, .int .u8 47, .int .u8 50, .int .u8 46, .int .u8 48, .int .u8 13, .int .u8 10, .int .u8 13, .int .u8 10, .int .u8 83, .int .u8 77, .int .u8 13, .int .u8 10, .int .u8 13, .int .u8 10] := ⟨heap_alloc_new _ _, rfl, by simp [ByteCells]⟩
  have t0 : (w1.alloc (.cells #[.int .i64 1, .int .u32 x1] 110)).cell? ⟨w.heap.size, 0, none⟩ = some (.bool false) := h1b.box.1
  have cc : ((w1.alloc (.cells #[.int .i64 1, .int .u32 x1] 110)).alloc (.cells #[.int .u8 80, .int .u8 82, .int .u8 73, .int .u8 32, .int .u8 42, .int .u8 32, .int .u8 72, .int .u8 84, .int .u8 84, .int .u8 80, .int .u8 47, .int .u8 50, .int .u8 46, .int .u8 48, .int .u8 13, .int .u8 10, .int .u8 13, .int .u8 10, .int .u8 83, .int .u8 77, .int .u8 13, .int .u8 10, .int .u8 13, .int .u8 10] 5 (24, 25))).cell? ⟨cb, 17, none⟩ = some (.slice none 0 0) := (Blk.cell h1c.c 17).trans rfl
  have ff : ((w1.alloc (.cells #[.int .i64 1, .int .u32 x1] 110)).alloc (.cells #[.int .u8 80, .int .u8 82, .int .u8 73, .int .u8 32, .int .u8 42, .int .u8 32, .int .u8 72, .int .u8 84, .int .u8 84, .int .u8 80, .int .u8 47, .int .u8 50, .int .u8 46, .int .u8 48, .int .u8 13, .int .u8 10, .int .u8 13, .int .u8 10, .int .u8 83, .int .u8 77, .int .u8 13, .int .u8 10, .int .u8 13, .int .u8 10] 5 (24, 25))).frozen? ⟨cb, 17, none⟩ = false := Blk.frozen h1c.c 17
  have h2 := h1c.setc 17 (.slice (some ⟨w1.heap.size + 1, 0, none⟩) 24 24)
  have e1 : (w1.alloc (.cells #[.int .i64 1, .int .u32 x1] 110)).heap.size = w1.heap.size + 1 := by simp
  rw [e1] at yl kc
  have y2 := yl.kept (Kept.put (b := cb) (i := 17) (Kept.refl _ _) (.slice (some ⟨w1.heap.size + 1, 0, none⟩) 24 24)) (yl.ne_blk h1c.c (by decide))
  have H2 := Lib.hid h2
  have Y2 := Lib.hid y2
  clear h1 h1b h1c h2 yl y2 e1 k1 c0 c1 c2 c3 c4 c5 c6
  go_wp2_with fail
  refine (conn_set 2 0 _).mono ?_
  rintro e w2 ⟨⟨x2, rfl⟩, k2⟩
  have H3 := Lib.hid (H2.out.step (k2.trans ((Kept.refl _ _).alloc (.cells #[.int .i64 2, .int .u32 x2] 110))))
  have Y3 := Lib.hid (Y2.out.kept (k2.trans ((Kept.refl _ _).alloc (.cells #[.int .i64 2, .int .u32 x2] 110))) (fun x => x))
  clear k2 cc ff t0 kc
  go_wp2_with (at_builtin; refine wpList_pushS rfl _ _ _ rfl (.slice (some ⟨w1.heap.size, 0, none⟩) 1 1) [(1, x1)] rfl H3.out.l w2.heap.size 1 1 [(2, x2)] rfl rfl (fun j u hu => laid_cells w2 [(2, x2)] j u hu) (by simp) ?_)
  intro v3 w3 s3 k3 o3
  have Y4 := Lib.hid (Y3.out.kept k3 (Y3.out.ne_row H3.out.l))
  have H4 := Lib.hid (H3.out.push s3 k3 (fun q hq => (o3 q hq).imp (fun h => h) (fun h => by (try simp at h ⊢); omega)))
  have s3' := H4.out.l
  obtain ⟨g3, cap3, hv3, _⟩ := s3'.cells' (by simp)
  obtain rfl : v3 = .slice (some ⟨g3, 0, none⟩) 2 cap3 := hv3
  have bx := H4.out.box
  have i3 : w3.drew.cell? ⟨w.heap.size, 2, none⟩ = some (.int .i64 wi) ∧ w3.drew.cell? ⟨w.heap.size, 3, none⟩ = some (.int .i64 fr) ∧ w3.drew.cell? ⟨w.heap.size, 4, none⟩ = some (.int .i64 li) := ⟨bx.2.2.1, bx.2.2.2.1, bx.2.2.2.2.1⟩
  clear s3 k3 o3 bx s3'
  go_wp2_with fail
  refine wp_region_serI (fun V => V.cell? ⟨w.heap.size, 2, none⟩ = some (.int .i64 wi) ∧ V.cell? ⟨w.heap.size, 3, none⟩ = some (.int .i64 fr) ∧ V.cell? ⟨w.heap.size, 4, none⟩ = some (.int .i64 li)) [0,0,0,0,3,0,0,0,3,0,0,0,3,2,3,0] [0,1,2,3,4,5,6,7,8,9,10,11,12,13,14,15] (by kernel_rfl) (by kernel_rfl) i3 ?_
  repeat (first | (refine wpSer_skip rfl rfl ?_) | (refine wpSer_calmE rfl rfl rfl rfl rfl rfl (by first | exact trivial | assumption) ?_; apply Exists.intro; refine ⟨?_, ?_⟩; focus (intro _ _ _ hK; go_step; first | exact hK | (rw [if_pos (by omega)]; go_step; exact hK) | (rw [if_neg (by omega)]; go_step; exact hK))))
  have J3 := Lib.hid (((Kept.refl (fun _ => False) w3)).drew)
  refine wpSer_opI rfl rfl rfl ?_
  intro _ hK
  go_step
  refine (conn_set 4 wi _).mono ?_
  rintro e u4 ⟨⟨y4, rfl⟩, j4⟩
  have J4 := Lib.hid (J3.out.trans j4)
  have b4 := (H4.out.step J4.out).box
  have i4 : u4.cell? ⟨w.heap.size, 2, none⟩ = some (.int .i64 wi) ∧ u4.cell? ⟨w.heap.size, 3, none⟩ = some (.int .i64 fr) ∧ u4.cell? ⟨w.heap.size, 4, none⟩ = some (.int .i64 li) := ⟨b4.2.2.1, b4.2.2.2.1, b4.2.2.2.2.1⟩
  clear b4 j4
  refine hK _ _ i4 ?_
  clear hK i3
  repeat (first | (refine wpSer_skip rfl rfl ?_) | (refine wpSer_calmE rfl rfl rfl rfl rfl rfl (by first | exact trivial | assumption) ?_; apply Exists.intro; refine ⟨?_, ?_⟩; focus (intro _ _ _ hK; go_step; first | exact hK | (rw [if_pos (by omega)]; go_step; exact hK) | (rw [if_neg (by omega)]; go_step; exact hK))))
  refine wpSer_opI rfl rfl rfl ?_
  intro _ hK
  go_step
  refine (conn_set 5 fr _).mono ?_
  rintro e u5 ⟨⟨y5, rfl⟩, j5⟩
  have J5 := Lib.hid (J4.out.trans j5)
  have b5 := (H4.out.step J5.out).box
  have i5 : u5.cell? ⟨w.heap.size, 2, none⟩ = some (.int .i64 wi) ∧ u5.cell? ⟨w.heap.size, 3, none⟩ = some (.int .i64 fr) ∧ u5.cell? ⟨w.heap.size, 4, none⟩ = some (.int .i64 li) := ⟨b5.2.2.1, b5.2.2.2.1, b5.2.2.2.2.1⟩
  clear b5 j5
  refine hK _ _ i5 ?_
  clear hK i4
  repeat (first | (refine wpSer_skip rfl rfl ?_) | (refine wpSer_calmE rfl rfl rfl rfl rfl rfl (by first | exact trivial | assumption) ?_; apply Exists.intro; refine ⟨?_, ?_⟩; focus (intro _ _ _ hK; go_step; first | exact hK | (rw [if_pos (by omega)]; go_step; exact hK) | (rw [if_neg (by omega)]; go_step; exact hK))))
  refine wpSer_opI rfl rfl rfl ?_
  intro _ hK
  go_step
  refine (conn_set 6 li _).mono ?_
  rintro e u6 ⟨⟨y6, rfl⟩, j6⟩
  have J6 := Lib.hid (J5.out.trans j6)
  have b6 := (H4.out.step J6.out).box
  have i6 : u6.cell? ⟨w.heap.size, 2, none⟩ = some (.int .i64 wi) ∧ u6.cell? ⟨w.heap.size, 3, none⟩ = some (.int .i64 fr) ∧ u6.cell? ⟨w.heap.size, 4, none⟩ = some (.int .i64 li) := ⟨b6.2.2.1, b6.2.2.2.1, b6.2.2.2.2.1⟩
  clear b6 j6
  refine hK _ _ i6 ?_
  clear hK i5
  repeat (first | (refine wpSer_skip rfl rfl ?_) | (refine wpSer_calmE rfl rfl rfl rfl rfl rfl (by first | exact trivial | assumption) ?_; apply Exists.intro; refine ⟨?_, ?_⟩; focus (intro _ _ _ hK; go_step; first | exact hK | (rw [if_pos (by omega)]; go_step; exact hK) | (rw [if_neg (by omega)]; go_step; exact hK))))
  (refine wpSer_opI rfl rfl rfl ?_; intro _ hK; go_step; (try first | (rw [if_pos (by omega)]; go_step) | (rw [if_neg (by omega)]; go_step)); refine (fun (h : _ ∧ _) => hK _ _ h.1 h.2) (inv_then ?_ (fun _ => ?_)); all_goals clear hK)
  · have b7 := ((H4.out.step J6.out).step ((Kept.refl _ _).alloc (.cells #[.int .i64 4, .int .u32 y4, .int .i64 5, .int .u32 y5, .int .i64 6, .int .u32 y6] 110))).box
    exact ⟨b7.2.2.1, b7.2.2.2.1, b7.2.2.2.2.1⟩
  refine wpSer_opI rfl rfl rfl ?_
  intro _ hK
  have Y7 := Lib.hid ((Y4.out.kept J6.out (fun x => x)).kept ((Kept.refl (fun _ => False) _).alloc (.cells #[.int .i64 4, .int .u32 y4, .int .i64 5, .int .u32 y5, .int .i64 6, .int .u32 y6] 110)) (fun x => x))
  have H7 := Lib.hid ((H4.out.step J6.out).step ((Kept.refl _ _).alloc (.cells #[.int .i64 4, .int .u32 y4, .int .i64 5, .int .u32 y5, .int .i64 6, .int .u32 y6] 110)))
  refine wp_pushS _ _ _ rfl (.slice (some ⟨g3, 0, none⟩) 2 cap3) _ rfl H7.out.l u6.heap.size 3 3 [(4, y4), (5, y5), (6, y6)] rfl rfl (fun j u hu => laid_cells u6 [(4, y4), (5, y5), (6, y6)] j u hu) (by simp) ?_
  intro v8 w8 s8 k8 o8
  have Y8 := Lib.hid (Y7.out.kept k8 (Y7.out.ne_row H7.out.l))
  have H8 := Lib.hid (H7.out.push s8 k8 (fun q hq => (o8 q hq).imp (fun h => h) (fun h => by (try simp at h ⊢); omega)))
  have b8 := H8.out.box
  have c12 : w8.cell? ⟨cb, 12, none⟩ = some (.pointer (some ⟨sb, 0, none⟩)) := (Blk.cell H8.out.c 12).trans rfl
  obtain ⟨g8, cap8, hv8, _⟩ := s8.cells' (by simp)
  obtain rfl : v8 = .slice (some ⟨g8, 0, none⟩) 5 cap8 := hv8
  have i8 : w8.cell? ⟨w.heap.size, 2, none⟩ = some (.int .i64 wi) ∧ w8.cell? ⟨w.heap.size, 3, none⟩ = some (.int .i64 fr) ∧ w8.cell? ⟨w.heap.size, 4, none⟩ = some (.int .i64 li) := ⟨b8.2.2.1, b8.2.2.2.1, b8.2.2.2.2.1⟩
  refine hK _ _ i8 ?_
  clear hK i6 s8 k8 o8
  have t0 : w8.cell? ⟨w.heap.size, 0, none⟩ = some (.bool false) := b8.1
  clear b8
  repeat (first | (refine wpSer_skip rfl rfl ?_) | (refine wpSer_calmE rfl rfl rfl rfl rfl rfl (by first | exact trivial | assumption) ?_; apply Exists.intro; refine ⟨?_, ?_⟩; focus (intro _ _ _ hK; go_step; first | exact hK | (rw [if_pos (by omega)]; go_step; exact hK) | (rw [if_neg (by omega)]; go_step; exact hK))))
  (refine wpSer_nil ?_)
  have hoff := settings_Offer H8.out.s H8.out.l (by simp) (by simp)
  have HOFF := Lib.hid hoff
  clear hoff
  go_wp2_with fail
  refine HOFF.out.mono ?_
  rintro e w11 ⟨rfl, k11⟩
  have hcs : cb ≠ sb := Blk.ne_ H8.out.c H8.out.s (by decide)
  have c11 := H8.out.c.kept k11 hcs
  have l11 := RS.kept H8.out.l k11 (fun q hq e => RS.ne_blk H8.out.l H8.out.s (by decide) (by rw [hq, e]))
  have Y11 := Lib.hid (Y8.out.kept k11 (Y8.out.ne_blk H8.out.s (by decide)))
  have hwr := conn_write_marked (mk := w1.heap.size + 1) (n := 24) c11 rfl Y11.out (by omega) l11 (by simp) (by simp) (by simp)
  have HWR := Lib.hid hwr
  have HK11 := Lib.hid (((H8.out.k.mono (F' := fun q => q = cb ∨ q = sb) (fun _ _ h => .inl h))).trans (k11.mono (fun _ _ h => .inr h)))
  clear hwr k11 c11 l11 c12
  go_wp2_with fail
  refine HWR.out.mono ?_
  rintro e w12 ⟨wv, n, ys, rfl, hb12, hy12, hn1, hn2, hk12, _⟩
  have HB12 := Lib.hid hb12
  have HY12 := Lib.hid hy12
  have HK12 := Lib.hid hk12
  clear hb12 hy12 hk12
  go_wp2_with fail
  go_end0
  exact ⟨_, wv, n, ys, rfl, HB12.out, HY12.out, by omega, hn2, .inr ⟨17, _, .inr rfl, rfl⟩, HK11.out.trans' HK12.out (fun q hq h => by
    rcases h with h | h
    · exact .inl h
    · simp [Value.ownBlock] at h
      have := hs1
      omega)⟩
end
end Go.Proofs.YtchgieogdinglaaGreat
