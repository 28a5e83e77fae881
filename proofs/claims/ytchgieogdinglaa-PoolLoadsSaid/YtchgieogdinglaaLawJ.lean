/- The law: PoolLoads. -/
import Derived.Test.YtchgieogdinglaaLawI
import Derived.Deep.DeepCutAuto
set_option linter.unusedSimpArgs false
set_option linter.unusedVariables false
namespace Go.Proofs.Ytchgieogdinglaa
open Go.RowKit
open Ser

/-- Behind 'b := p.Backs()[o.A]': b's block, o's block, both pools. -/
def TakeCut (c : PC) (d : RC) (w : World) (bs ds : List Bk) (N : Int) (G H : Nat → Prop) (q : Bk) (ob kk : Nat) (y : Int) (s9 : Value) (X : World) : Prop :=
  ∃ o9 up sz, s9 = .pointer (some ⟨o9, 0, none⟩) ∧ (if q.st = 2 then max 0 (q.may - q.load) else 0) = sz ∧ Blk X o9 37 #[.bool up, .int .i64 sz, .int .i64 q.load] ∧ Blk X ob 33 #[.int .i64 5, .int .i64 kk, .int .i64 y] ∧ Two c d X bs ds N G H ∧ Kept (fun _ => False) w X ∧ ob < o9

def LawDone (w : World) (e : Ending) (w' : World) : Prop := e = .returned (.bool true) ∧ Kept (fun _ => False) w w'
set_option maxHeartbeats 16000000 in
set_option maxRecDepth 100000 in
theorem law_PoolLoads (w : World) (ao : Option Addr) (n cap : Nat) (hS : Script w ao n) (hn : n ≤ 1152921504606846) :
    Calls Try.prog 3 #[.slice ao n cap] w (LawDone w) := by
  have hn' : (n : Int) ≤ 1152921504606846 := by omega
  have HS := Lib.hid hS
  have hnew := pool_New w 3 (by omega) (by omega) 2 2 1 1 4 (by unfold HealthOk; omega) (by omega) (by omega) (by omega)
  have HNEW := Lib.hid hnew
  clear hnew hS
  go_enter Try.func3, Try.ntmps3
  go_wp2_with fail
  refine HNEW.out.mono ?_
  rintro e w1 ⟨ab, pb, wb, bs0, lv, F, mb, sl, sv, rfl, hl, M⟩
  obtain ⟨lb, cp, G0, I, hw, hFG, hFp, hFl, hFh, hG0⟩ := M.inv (by omega) (by omega) (by unfold HealthOk; omega) (by omega) (by omega) (by omega)
  have hk1 : Kept (fun _ => False) w w1 := M.kept
  have href := ref_PNew w1 3 (by omega) (by omega) 2 2 1 1 4 (by unfold HealthOk; omega) (by omega) (by omega) (by omega)
  have HREF := Lib.hid href
  have HI := Lib.hid I
  have HL := Lib.hid hl
  have HG0 := Lib.hid hG0
  have HK1 := Lib.hid hk1
  clear M hw hFG hFp hFl hFh hG0 I hl hk1 href
  go_wp2_with fail
  refine HREF.out.mono ?_
  rintro e w2 ⟨ab2, pb2, wb2, ds0, lv2, K2, N2, wlv, L2, rfl, hl2, M2⟩
  obtain ⟨lb2, cp2, H0, I2, hH0⟩ := M2.inv (by omega) (by omega) (by omega) (by omega) (by omega) (by omega)
  have hk2 : Kept (fun _ => False) w1 w2 := M2.kept
  have st : LawR ⟨pb, lb, cp, wb, 1, 4, 2, 2, 1⟩ ⟨pb2, lb2, cp2, wb2, 1, 4⟩ w n (.int .i64 0) w2 := by
    have hlt := HI.out.lt
    have s1 := HK1.out.size
    refine ⟨0, bs0, ds0, G0, H0, Nat.zero_le _, rfl, HL.out, hl2, ⟨HI.out.kept hk2 (fun _ _ x => x) (by simp), by simpa using I2, fun q hq hq2 => ?_⟩, fun q hq => ?_, HK1.out.trans hk2⟩
    · have := hlt q hq; have := hH0 q hq2; omega
    · rcases hq with h | h
      · exact HG0.out q h
      · have := hH0 q h; omega
  have ST := Lib.hid st
  clear M2 I2 hH0 hl2 hk2 st
  go_wp2_with fail
  go_loopw [7] (LawR ⟨pb, lb, cp, wb, 1, 4, 2, 2, 1⟩ ⟨pb2, lb2, cp2, wb2, 1, 4⟩ w n) (fun i _ => n - (intOf i).toNat)
  case atStart => exact ST.out
  obtain ⟨k, bs, ds, G, H, hk, rfl, hb3, hd3, T, hG, hkk⟩ := hrel
  clear HNEW HREF HI HL HG0 HK1 ST
  rcases Nat.lt_or_ge k n with hlt | hge
  · obtain ⟨b, off, wh, x, y, rfl, hbl, hy, c0, c1, c2⟩ := HS.out k hlt
    have d0 := (hkk.cell (p := ⟨b, off + k * 3, none⟩) hbl).trans c0
    have d1 := (hkk.cell (p := ⟨b, off + k * 3 + 1, none⟩) hbl).trans c1
    have d2 := (hkk.cell (p := ⟨b, off + k * 3 + 2, none⟩) hbl).trans c2
    have HT := Lib.hid T
    have HB3 := Lib.hid hb3
    have HD3 := Lib.hid hd3
    have HG := Lib.hid hG
    have HKK := Lib.hid hkk
    clear c0 c1 c2 T hb3 hd3 hG hkk
    have kA : Kept (fun _ => False) wr (wr.alloc (.cells #[.int .i64 wh, .int .i64 x, .int .i64 y] 33)) := (Kept.refl _ _).alloc _
    have bO : Blk (wr.alloc (.cells #[.int .i64 wh, .int .i64 x, .int .i64 y] 33)) wr.heap.size 33 #[.int .i64 wh, .int .i64 x, .int .i64 y] := Blk.new _ _ _
    have T1 := HT.out.kept kA (fun _ _ x => x) (fun _ _ x => x)
    have HBO := Lib.hid bO
    have HT1 := Lib.hid T1
    have HKA := Lib.hid kA
    clear bO T1 kA
    by_cases h5 : wh = 5
    · by_cases hx : 0 ≤ x ∧ x < 3
      · obtain ⟨kk, rfl⟩ : ∃ kk : Nat, x = (kk : Int) := ⟨x.toNat, by omega⟩
        have hk3 : kk < 3 := by omega
        have hk3' : (kk : Int) < 3 := by omega
        subst h5
        clear hx
        obtain ⟨q, hq⟩ : ∃ b, bs[kk]? = some b := ⟨bs[kk]'(by rw [HB3.out]; exact hk3), List.getElem?_eq_getElem _⟩
        have hqo := HT1.out.p.b q (List.mem_of_getElem? hq)
        have hbk := pool_Backs HT1.out.p (by omega)
        have HBK := Lib.hid hbk
        have HQ := Lib.hid hq
        have HQO := Lib.hid hqo
        have hgl0 : ∀ i, G i ∨ H i → i < wr.heap.size := fun i hi => by
          rcases hi with h | h
          · exact HT.out.p.lt i h
          · exact HT.out.r.lt i h
        have HGL := Lib.hid hgl0
        have hkn : (k : Int) ≤ 1152921504606846 := by omega
        clear hbk hq hqo hgl0
        go_wp2_with fail
        refine HBK.out.mono ?_
        rintro e W ⟨v3, L3, rfl, hl3, hB3', hr3, hf3, k3⟩
        obtain ⟨ao3, cp3, hv3, _⟩ := RS.form hr3
        obtain rfl : v3 = .slice ao3 3 cp3 := by rw [hv3, hl3, HB3.out]
        have bW := HBO.out.kept k3 (fun x => x)
        have o0 : W.cell? ⟨wr.heap.size, 0, none⟩ = some (.int .i64 5) := (Blk.cell bW 0).trans rfl
        have o1 : W.cell? ⟨wr.heap.size, 1, none⟩ = some (.int .i64 kk) := (Blk.cell bW 1).trans rfl
        have o2 : W.cell? ⟨wr.heap.size, 2, none⟩ = some (.int .i64 y) := (Blk.cell bW 2).trans rfl
        have TW : Two ⟨pb, lb, cp, wb, 1, 4, 2, 2, 1⟩ ⟨pb2, lb2, cp2, wb2, 1, 4⟩ W bs ds (3 + k) G H := HT1.out.kept k3 (fun _ _ x => x) (fun _ _ x => x)
        have KW : Kept (fun _ => False) w W := (HKK.out.trans HKA.out).trans k3
        have hgl : wr.heap.size < W.heap.size := Blk.lt bW
        clear hv3 hl3 hB3' hr3 hf3 k3
        have HTW := Lib.hid TW
        have HKW0 := Lib.hid KW
        have HBW := Lib.hid bW
        clear TW KW bW HBK HT HT1 HKK HKA HBO
        go_upto_region 10 with fail
        go_cut [9] (TakeCut ⟨pb, lb, cp, wb, 1, 4, 2, 2, 1⟩ ⟨pb2, lb2, cp2, wb2, 1, 4⟩ w bs ds (3 + k) G H q wr.heap.size kk y)
        case first =>
         have hbk2 := pool_Backs (HTW.out.p.kept (H := fun _ => False) (N' := 3 + k) (w1 := W.drew) ((Kept.refl _ _).drew) (fun _ _ x => x) (Int.le_refl _)) (by omega)
         have HBK2 := Lib.hid hbk2
         clear hbk2
         refine wp_region_two (fun V => V.cell? ⟨wr.heap.size, 1, none⟩ = some (.int .i64 kk)) [0,3,0,0,0,1,2,3] [0,2,3] 1 6 [4,5,6,7] [1,4,5,7] (by kernel_rfl) (by kernel_rfl) o1 ?_
         repeat (first | (refine wpSer_skip rfl rfl ?_) | (refine wpSer_calmE rfl rfl rfl rfl rfl rfl (by first | exact trivial | assumption) ?_; apply Exists.intro; refine ⟨?_, ?_⟩; focus (intro _ _ _ hK; go_step; first | exact hK | (rw [if_pos (by omega)]; go_step; exact hK) | (rw [if_neg (by omega)]; go_step; exact hK))))
         (refine wpSer_nil ?_)
         refine ⟨?_, ?_⟩
         · refine wpSer_opI rfl rfl rfl ?_
           intro _ hK
           go_step
           refine HBK2.out.mono ?_
           rintro e V ⟨v4, L4, rfl, hl4, hB4, hr4, hf4, k4⟩
           obtain ⟨g4, cp4, up, hv4, q0, q1, q2, q3⟩ := backs_at hl4 hB4 hr4 HQ.out
           obtain rfl : v4 = .slice (some ⟨g4, 0, none⟩) 3 cp4 := by rw [hv4, hl4, HB3.out]
           obtain ⟨sz, hsz⟩ : ∃ z, (if q.st = 2 then max 0 (q.may - q.load) else 0) = z := ⟨_, rfl⟩
           rw [hsz] at q1
           have bV := (HBW.out.drew).kept k4 (fun x => x)
           have oV : V.cell? ⟨wr.heap.size, 1, none⟩ = some (.int .i64 kk) := (Blk.cell bV 1).trans rfl
           have HBV := Lib.hid bV
           have HSZ := Lib.hid hsz
           have HKV := Lib.hid k4
           clear hv4 hl4 hB4 hr4 hf4 k4 bV hsz q3
           refine hK _ _ oV ?_
           clear hK
           (refine wpSer_calmE rfl rfl rfl rfl rfl rfl (by first | exact trivial | assumption) ?_; apply Exists.intro; refine ⟨?_, ?_⟩; focus (intro _ _ _ hK; go_step; first | exact hK | (rw [if_pos (by omega)]; go_step; exact hK) | (rw [if_neg (by omega)]; go_step; exact hK)))
           (refine wpSer_opI rfl rfl rfl ?_; intro _ hK; go_step; (try first | (rw [if_pos (by omega)]; go_step) | (rw [if_neg (by omega)]; go_step)); refine (fun (h : _ ∧ _) => hK _ _ h.1 h.2) (inv_then ?_ (fun _ => ?_)); all_goals clear hK)
           · exact oV
           (refine wpSer_opI rfl rfl rfl ?_; intro _ hK; go_step; (try first | (rw [if_pos (by omega)]; go_step) | (rw [if_neg (by omega)]; go_step)); refine (fun (h : _ ∧ _) => hK _ _ h.1 h.2) (inv_then ?_ (fun _ => ?_)); all_goals clear hK)
           · exact (Blk.cell (Blk.alloc HBV.out _) 1).trans rfl
           (refine wpSer_opI rfl rfl rfl ?_; intro _ hK; go_step; (try first | (rw [if_pos (by omega)]; go_step) | (rw [if_neg (by omega)]; go_step)); refine (fun (h : _ ∧ _) => hK _ _ h.1 h.2) (inv_then ?_ (fun _ => ?_)); all_goals clear hK)
           · exact (Blk.cell (Blk.alloc HBV.out _) 1).trans rfl
           (refine wpSer_nil ?_)
           obtain ⟨X, hX⟩ : ∃ X, X = V.alloc (.cells #[.bool up, .int .i64 sz, .int .i64 q.load] 37) := ⟨_, rfl⟩
           obtain ⟨o9, ho9⟩ : ∃ o, o = V.heap.size := ⟨_, rfl⟩
           rw [← hX, ← ho9]
           have kX : Kept (fun _ => False) W X := by rw [hX]; exact (((Kept.refl _ _).drew).trans HKV.out).alloc _
           have bX : Blk X o9 37 #[.bool up, .int .i64 sz, .int .i64 q.load] := by rw [hX, ho9]; exact Blk.new _ _ _
           have h9 : wr.heap.size < o9 := by rw [ho9]; have h := HKV.out.size; simp at h; omega
           clear hX ho9
           go_wp2_with fail
           go_meet
           exact ⟨o9, up, sz, rfl, HSZ.out, bX, HBW.out.kept kX (fun x => x), HTW.out.kept kX (fun _ _ x => x) (fun _ _ x => x), HKW0.out.trans kX, h9⟩
         · have hbk3 := pool_Backs (HTW.out.p.kept (H := fun _ => False) (N' := 3 + k) (w1 := (W.alloc (.cells #[.bool false, .int .i64 0, .int .i64 0] 37)).drew) (((Kept.refl _ _).alloc _).drew) (fun _ _ x => x) (Int.le_refl _)) (by omega)
           have HBK3 := Lib.hid hbk3
           clear hbk3
           (refine wpSer_opI rfl rfl rfl ?_; intro _ hK; go_step; (try first | (rw [if_pos (by omega)]; go_step) | (rw [if_neg (by omega)]; go_step)); refine (fun (h : _ ∧ _) => hK _ _ h.1 h.2) (inv_then ?_ (fun _ => ?_)); all_goals clear hK)
           · exact (Blk.cell (Blk.alloc HBW.out _) 1).trans rfl
           refine wpSer_opI rfl rfl rfl ?_
           intro _ hK
           go_step
           refine HBK3.out.mono ?_
           rintro e V ⟨v4, L4, rfl, hl4, hB4, hr4, hf4, k4⟩
           obtain ⟨g4, cp4, up, hv4, q0, q1, q2, q3⟩ := backs_at hl4 hB4 hr4 HQ.out
           obtain rfl : v4 = .slice (some ⟨g4, 0, none⟩) 3 cp4 := by rw [hv4, hl4, HB3.out]
           obtain ⟨sz, hsz⟩ : ∃ z, (if q.st = 2 then max 0 (q.may - q.load) else 0) = z := ⟨_, rfl⟩
           rw [hsz] at q1
           have bV := ((HBW.out.alloc (.cells #[.bool false, .int .i64 0, .int .i64 0] 37)).drew).kept k4 (fun x => x)
           have oV : V.cell? ⟨wr.heap.size, 1, none⟩ = some (.int .i64 kk) := (Blk.cell bV 1).trans rfl
           have bN := ((Blk.new W 37 #[.bool false, .int .i64 0, .int .i64 0]).drew).kept k4 (fun x => x)
           have n0 : V.cell? ⟨W.heap.size, 0, none⟩ = some (.bool false) := (Blk.cell bN 0).trans rfl
           have n1 : V.cell? ⟨W.heap.size, 1, none⟩ = some (.int .i64 0) := (Blk.cell bN 1).trans rfl
           have n2 : V.cell? ⟨W.heap.size, 2, none⟩ = some (.int .i64 0) := (Blk.cell bN 2).trans rfl
           have f0 : V.frozen? ⟨W.heap.size, 0, none⟩ = false := Blk.frozen bN 0
           have f1 : V.frozen? ⟨W.heap.size, 1, none⟩ = false := Blk.frozen bN 1
           have f2 : V.frozen? ⟨W.heap.size, 2, none⟩ = false := Blk.frozen bN 2
           have HBV := Lib.hid bV
           have HBN := Lib.hid bN
           have HSZ := Lib.hid hsz
           have HKV := Lib.hid k4
           clear hv4 hl4 hB4 hr4 hf4 k4 bV bN hsz q3
           refine hK _ _ oV ?_
           clear hK
           (refine wpSer_calmE rfl rfl rfl rfl rfl rfl (by first | exact trivial | assumption) ?_; apply Exists.intro; refine ⟨?_, ?_⟩; focus (intro _ _ _ hK; go_step; first | exact hK | (rw [if_pos (by omega)]; go_step; exact hK) | (rw [if_neg (by omega)]; go_step; exact hK)))
           (refine wpSer_opI rfl rfl rfl ?_; intro _ hK; go_step; (try first | (rw [if_pos (by omega)]; go_step) | (rw [if_neg (by omega)]; go_step)); refine (fun (h : _ ∧ _) => hK _ _ h.1 h.2) (inv_then ?_ (fun _ => ?_)); all_goals clear hK)
           · exact oV
           (refine wpSer_opI rfl rfl rfl ?_; intro _ hK; go_step; (try first | (rw [if_pos (by omega)]; go_step) | (rw [if_neg (by omega)]; go_step)); refine (fun (h : _ ∧ _) => hK _ _ h.1 h.2) (inv_then ?_ (fun _ => ?_)); all_goals clear hK)
           · exact (Blk.cell (((HBV.out.far (p := ⟨W.heap.size, 0, none⟩) (by simp; omega) _).far (p := ⟨W.heap.size, 1, none⟩) (by simp; omega) _).far (p := ⟨W.heap.size, 2, none⟩) (by simp; omega) _) 1).trans rfl
           (refine wpSer_nil ?_)
           obtain ⟨X, hX⟩ : ∃ X, X = ((V.setCell ⟨W.heap.size, 0, none⟩ (.bool up)).setCell ⟨W.heap.size, 1, none⟩ (.int .i64 sz)).setCell ⟨W.heap.size, 2, none⟩ (.int .i64 q.load) := ⟨_, rfl⟩
           obtain ⟨o9, ho9⟩ : ∃ o, o = W.heap.size := ⟨_, rfl⟩
           rw [← hX]
           rw [← ho9]
           have kX : Kept (fun _ => False) W X := by
             rw [hX]
             exact (((((Kept.refl _ _).alloc _).drew.trans HKV.out).setCell (p := ⟨W.heap.size, 0, none⟩) (fun h => absurd h (Nat.lt_irrefl _)) _).setCell (p := ⟨W.heap.size, 1, none⟩) (fun h => absurd h (Nat.lt_irrefl _)) _).setCell (p := ⟨W.heap.size, 2, none⟩) (fun h => absurd h (Nat.lt_irrefl _)) _
           have bX : Blk X o9 37 #[.bool up, .int .i64 sz, .int .i64 q.load] := by
             rw [hX, ho9]
             exact ((HBN.out.set_ 0 (.bool up)).set_ 1 (.int .i64 sz)).set_ 2 (.int .i64 q.load)
           have h9 : wr.heap.size < o9 := by rw [ho9]; exact hgl
           clear hX ho9 n0 n1 n2 f0 f1 f2
           go_wp2_with fail
           go_meet
           exact ⟨o9, up, sz, rfl, HSZ.out, bX, HBW.out.kept kX (fun x => x), HTW.out.kept kX (fun _ _ x => x) (fun _ _ x => x), HKW0.out.trans kX, h9⟩
        case rest =>
          obtain ⟨o9, up, sz, rfl, hsz, bX, bOX, TX, KX, h9⟩ := hcut
          have HSZ := Lib.hid hsz
          have x1 : wc.cell? ⟨wr.heap.size, 1, none⟩ = some (.int .i64 kk) := (Blk.cell bOX 1).trans rfl
          have nO : ¬ (G wr.heap.size ∨ H wr.heap.size) := fun h => by have := HGL.out _ h; omega
          have nB : ¬ (G o9 ∨ H o9) := fun h => by have := HGL.out _ h; omega
          have htk := pool_Take TX.p.p TX.p.r TX.p.n (kk : Int) (fun b hb => ⟨(TX.p.b b hb).1, by have := (TX.p.b b hb).2.1; omega⟩)
          have HBX := Lib.hid bX
          have HBOX := Lib.hid bOX
          have HTX := Lib.hid TX
          have HKX := Lib.hid KX
          have HTK := Lib.hid htk
          have HNO := Lib.hid nO
          have HNB := Lib.hid nB
          have hcase : (q.st = 2 ∧ q.load < q.may) ∨ (q.st = 2 ∧ q.may ≤ q.load) ∨ ¬ q.st = 2 := by omega
          clear bX bOX TX KX htk nO nB hsz
          rcases hcase with ⟨hs2, hlm⟩ | ⟨hs2, hml⟩ | hs2
          · have htk := take_up HQ.out hs2 hlm
            have hsz1 : 0 < sz := by rw [← HSZ.out, if_pos hs2]; omega
            have HTE := Lib.hid htk
            have HS2 := Lib.hid hs2
            clear htk hs2
            go_wp2_with fail
            refine HTK.out.mono ?_
            rintro e Y hY
            obtain ⟨he, hpY, hlY, hkY⟩ := take_inv HTX.out.p hY
            rw [HTE.out] at he hpY hlY
            subst he
            have hRY := HTX.out.r.kept hkY (fun i hi hG => HTX.out.apart i hG hi) (Int.le_refl _)
            have href := ref_Take hRY (by omega) (kk : Int)
            have bOY := HBOX.out.kept hkY (fun h => HNO.out (.inl h))
            have bY := HBX.out.kept hkY (fun h => HNB.out (.inl h))
            have y1 : Y.cell? ⟨wr.heap.size, 1, none⟩ = some (.int .i64 kk) := (Blk.cell bOY 1).trans rfl
            have HREF := Lib.hid href
            have HPY := Lib.hid hpY
            have HKY := Lib.hid hkY
            have HBOY := Lib.hid bOY
            have HBY := Lib.hid bY
            clear hRY href hpY hlY hkY bOY bY hY
            go_wp2_with fail
            refine HREF.out.mono ?_
            rintro e Z ⟨⟨vr, rfl⟩, hsZ⟩
            obtain ⟨hpZ, hdone⟩ := took_done HTX.out HPY.out (by simp) HKY.out hsZ
            obtain ⟨_, _, _, _, hgZ⟩ := hsZ
            have bOZ := HBOY.out.kept hgZ.kept (fun h => HNO.out (.inr h))
            have bZ := HBY.out.kept hgZ.kept (fun h => HNB.out (.inr h))
            have zc : Z.drew.cell? ⟨wr.heap.size, 1, none⟩ = some (.int .i64 kk) ∧ Z.drew.cell? ⟨o9, 1, none⟩ = some (.int .i64 sz) ∧ Z.drew.cell? ⟨o9, 2, none⟩ = some (.int .i64 q.load) := ⟨(Blk.cell bOZ 1).trans rfl, (Blk.cell bZ 1).trans rfl, (Blk.cell bZ 2).trans rfl⟩
            have hpD := hpZ.kept (H := fun _ => False) (w1 := Z.drew) ((Kept.refl _ _).drew) (fun _ _ x => x) (Int.le_refl _)
            have hst := pool_State hpD.p hpD.r hpD.n (kk : Int)
            rw [state_at (set_at HQ.out)] at hst
            rw [show ({ q with load := q.load + 1 } : Bk).st = 2 from HS2.out] at hst
            have hbk9 := pool_Backs hpD (by omega)
            have hq0 : 0 ≤ q.load := HQO.out.1
            have hq1 : q.load ≤ 1152921504606850 := by have := HQO.out.2.1; omega
            have s1 : decide (0 < sz) = true := by simpa using hsz1
            have HST := Lib.hid hst
            have HBK9 := Lib.hid hbk9
            have HBOZ := Lib.hid bOZ
            have HBZ := Lib.hid bZ
            have HDONE := Lib.hid hdone
            clear hst hbk9 bOZ bZ hdone hpD hpZ hgZ
            go_wp2_with fail
            refine wp_region_serI (fun V => V.cell? ⟨wr.heap.size, 1, none⟩ = some (.int .i64 kk) ∧ V.cell? ⟨o9, 1, none⟩ = some (.int .i64 sz) ∧ V.cell? ⟨o9, 2, none⟩ = some (.int .i64 q.load)) [0,0,0,0,0,3,0,0,0,0,0,0,0,0,0,0,0,0,3,0,0,0,0,1,0,0,0,0,0,0] [0,1,2,3,4,5,6,7,8,9,10,11,12,13,14,15,16,17,18,19,20,21,22,23,24,25,26,27,28,29] (by kernel_rfl) (by kernel_rfl) zc ?_
            repeat (first | (refine wpSer_skip rfl rfl ?_) | (refine wpSer_calmE rfl rfl rfl rfl rfl rfl (by first | exact trivial | assumption) ?_; apply Exists.intro; refine ⟨?_, ?_⟩; focus (intro _ _ _ hK; go_step; first | exact hK | (rw [if_pos (by omega)]; go_step; exact hK) | (rw [if_neg (by omega)]; go_step; exact hK))))
            refine wpSer_opI rfl rfl rfl ?_
            intro _ hK
            go_step
            refine HST.out.mono ?_
            rintro e w' ⟨rfl, rfl⟩
            refine hK _ _ zc ?_
            clear hK
            repeat (first | (refine wpSer_skip rfl rfl ?_) | (refine wpSer_calmE rfl rfl rfl rfl rfl rfl (by first | exact trivial | assumption) ?_; apply Exists.intro; refine ⟨?_, ?_⟩; focus (intro _ _ _ hK; go_step; first | exact hK | (rw [if_pos (by omega)]; go_step; exact hK) | (rw [if_neg (by omega)]; go_step; exact hK))))
            refine wpSer_opI rfl rfl rfl ?_
            intro _ hK
            go_step
            refine HBK9.out.mono ?_
            rintro e V9 ⟨v9, L9, rfl, hl9, hB9, hr9, hf9, k9⟩
            obtain ⟨g9, cp9, up9, hv9, p0, p1, p2, p3⟩ := backs_at hl9 hB9 hr9 (set_at HQ.out)
            obtain rfl : v9 = .slice (some ⟨g9, 0, none⟩) 3 cp9 := by rw [hv9, hl9, List.length_set, HB3.out]
            have zc9 : V9.cell? ⟨wr.heap.size, 1, none⟩ = some (.int .i64 kk) ∧ V9.cell? ⟨o9, 1, none⟩ = some (.int .i64 sz) ∧ V9.cell? ⟨o9, 2, none⟩ = some (.int .i64 q.load) := ⟨(Blk.cell ((HBOZ.out.drew).kept k9 (fun x => x)) 1).trans rfl, (Blk.cell ((HBZ.out.drew).kept k9 (fun x => x)) 1).trans rfl, (Blk.cell ((HBZ.out.drew).kept k9 (fun x => x)) 2).trans rfl⟩
            have HK9 := Lib.hid k9
            clear hv9 hl9 hB9 hr9 hf9 k9 p0 p1 p3 zc
            refine hK _ _ zc9 ?_
            clear hK
            repeat (first | (refine wpSer_skip rfl rfl ?_) | (refine wpSer_calmE rfl rfl rfl rfl rfl rfl (by first | exact trivial | assumption) ?_; apply Exists.intro; refine ⟨?_, ?_⟩; focus (intro _ _ _ hK; go_step; first | exact hK | (rw [if_pos (by omega)]; go_step; exact hK) | (rw [if_neg (by omega)]; go_step; exact hK))))
            (refine wpSer_opI rfl rfl rfl ?_; intro _ hK; go_step; (try first | (rw [if_pos (by omega)]; go_step) | (rw [if_neg (by omega)]; go_step)); refine (fun (h : _ ∧ _) => hK _ _ h.1 h.2) (inv_then ?_ (fun _ => ?_)); all_goals clear hK)
            · exact zc9
            repeat (first | (refine wpSer_skip rfl rfl ?_) | (refine wpSer_calmE rfl rfl rfl rfl rfl rfl (by first | exact trivial | assumption) ?_; apply Exists.intro; refine ⟨?_, ?_⟩; focus (intro _ _ _ hK; go_step; first | exact hK | (rw [if_pos (by omega)]; go_step; exact hK) | (rw [if_neg (by omega)]; go_step; exact hK))))
            (refine wpSer_nil ?_)
            go_wp2_with fail
            go_roundw
            case rel =>
              have hd := HDONE.out
              rw [HB3.out, HD3.out] at hd
              exact LawR.next hlt HG.out HKX.out hd (((Kept.refl _ _).drew).trans HK9.out)
            case measure => simp [intOf]; omega
          · have htk := take_full HQ.out hs2 hml
            have s1 : decide (0 < sz) = false := by rw [← HSZ.out, if_pos hs2]; simp; omega
            have HTE := Lib.hid htk
            have HS2 := Lib.hid hs2
            clear htk hs2
            go_wp2_with fail
            refine HTK.out.mono ?_
            rintro e Y hY
            obtain ⟨he, hpY, hlY, hkY⟩ := take_inv HTX.out.p hY
            rw [HTE.out] at he hpY hlY
            subst he
            have hRY := HTX.out.r.kept hkY (fun i hi hG => HTX.out.apart i hG hi) (Int.le_refl _)
            have href := ref_Take hRY (by omega) (kk : Int)
            have bOY := HBOX.out.kept hkY (fun h => HNO.out (.inl h))
            have bY := HBX.out.kept hkY (fun h => HNB.out (.inl h))
            have y1 : Y.cell? ⟨wr.heap.size, 1, none⟩ = some (.int .i64 kk) := (Blk.cell bOY 1).trans rfl
            have HREF := Lib.hid href
            have HPY := Lib.hid hpY
            have HKY := Lib.hid hkY
            have HBOY := Lib.hid bOY
            have HBY := Lib.hid bY
            clear hRY href hpY hlY hkY bOY bY hY
            go_wp2_with fail
            refine HREF.out.mono ?_
            rintro e Z ⟨⟨vr, rfl⟩, hsZ⟩
            obtain ⟨hpZ, hdone⟩ := took_done HTX.out HPY.out (by simp) HKY.out hsZ
            obtain ⟨_, _, _, _, hgZ⟩ := hsZ
            have bOZ := HBOY.out.kept hgZ.kept (fun h => HNO.out (.inr h))
            have bZ := HBY.out.kept hgZ.kept (fun h => HNB.out (.inr h))
            have z1 : Z.cell? ⟨wr.heap.size, 1, none⟩ = some (.int .i64 kk) := (Blk.cell bOZ 1).trans rfl
            have z2 : Z.cell? ⟨o9, 1, none⟩ = some (.int .i64 sz) := (Blk.cell bZ 1).trans rfl
            have hst : ∀ m : Nat, Calls Try.prog 9 #[.pointer (some ⟨pb, 0, none⟩), .int .i64 kk] (Z.drewN m) fun e w' => e = .returned (.int .i64 q.st) ∧ Z.drewN m = w' := fun m => by
              have hpD := hpZ.kept (H := fun _ => False) (w1 := Z.drewN m) ((Kept.refl _ _).drewN m) (fun _ _ x => x) (Int.le_refl _)
              have h := pool_State hpD.p hpD.r hpD.n (kk : Int)
              rw [state_at HQ.out] at h
              exact h
            rw [HS2.out] at hst
            have HST := Lib.hid hst
            have HDONE := Lib.hid hdone
            clear hst bOZ bZ hdone hpZ hgZ
            go_wp2_with fail
            go_quiet ((go_at_call 9; exact quiet_left_ (HST.out _)))
            go_wp2_with fail
            go_roundw
            case rel =>
              have hd := HDONE.out
              rw [HB3.out, HD3.out] at hd
              exact LawR.next hlt HG.out HKX.out hd ((Kept.refl _ _).drewN _)
            case measure => simp [intOf]; omega
          · have htk := take_not HQ.out hs2
            have gs2 : (q.st == 2) = false := by simpa using hs2
            have HTE := Lib.hid htk
            clear htk hs2
            go_wp2_with fail
            refine HTK.out.mono ?_
            rintro e Y hY
            obtain ⟨he, hpY, hlY, hkY⟩ := take_inv HTX.out.p hY
            rw [HTE.out] at he hpY hlY
            subst he
            have hRY := HTX.out.r.kept hkY (fun i hi hG => HTX.out.apart i hG hi) (Int.le_refl _)
            have href := ref_Take hRY (by omega) (kk : Int)
            have bOY := HBOX.out.kept hkY (fun h => HNO.out (.inl h))
            have bY := HBX.out.kept hkY (fun h => HNB.out (.inl h))
            have y1 : Y.cell? ⟨wr.heap.size, 1, none⟩ = some (.int .i64 kk) := (Blk.cell bOY 1).trans rfl
            have HREF := Lib.hid href
            have HPY := Lib.hid hpY
            have HKY := Lib.hid hkY
            have HBOY := Lib.hid bOY
            have HBY := Lib.hid bY
            clear hRY href hpY hlY hkY bOY bY hY
            go_wp2_with fail
            refine HREF.out.mono ?_
            rintro e Z ⟨⟨vr, rfl⟩, hsZ⟩
            obtain ⟨hpZ, hdone⟩ := took_done HTX.out HPY.out (by simp) HKY.out hsZ
            obtain ⟨_, _, _, _, hgZ⟩ := hsZ
            have bOZ := HBOY.out.kept hgZ.kept (fun h => HNO.out (.inr h))
            have bZ := HBY.out.kept hgZ.kept (fun h => HNB.out (.inr h))
            have z1 : Z.cell? ⟨wr.heap.size, 1, none⟩ = some (.int .i64 kk) := (Blk.cell bOZ 1).trans rfl
            have z2 : Z.cell? ⟨o9, 1, none⟩ = some (.int .i64 sz) := (Blk.cell bZ 1).trans rfl
            have hst : ∀ m : Nat, Calls Try.prog 9 #[.pointer (some ⟨pb, 0, none⟩), .int .i64 kk] (Z.drewN m) fun e w' => e = .returned (.int .i64 q.st) ∧ Z.drewN m = w' := fun m => by
              have hpD := hpZ.kept (H := fun _ => False) (w1 := Z.drewN m) ((Kept.refl _ _).drewN m) (fun _ _ x => x) (Int.le_refl _)
              have h := pool_State hpD.p hpD.r hpD.n (kk : Int)
              rw [state_at HQ.out] at h
              exact h
            have HST := Lib.hid hst
            have HDONE := Lib.hid hdone
            clear hst bOZ bZ hdone hpZ hgZ
            go_wp2_with fail
            go_quiet ((go_at_call 9; exact quiet_left_ (HST.out _)))
            go_wp2_with fail
            go_roundw
            case rel =>
              have hd := HDONE.out
              rw [HB3.out, HD3.out] at hd
              exact LawR.next hlt HG.out HKX.out hd ((Kept.refl _ _).drewN _)
            case measure => simp [intOf]; omega
      · have hbk := pool_Backs HT1.out.p (by omega)
        have HBK := Lib.hid hbk
        clear hbk
        subst h5
        by_cases hx0 : 0 ≤ x
        · have g0 : decide (0 ≤ x) = true := by simpa using hx0
          have g1 : decide (x < 3) = false := by simp; omega
          clear hx hx0
          go_wp2_with fail
          refine HBK.out.mono ?_
          rintro e W ⟨v3, L3, rfl, hl3, hB3', hr3, hf3, k3⟩
          obtain ⟨ao3, cp3, hv3, _⟩ := RS.form hr3
          obtain rfl : v3 = .slice ao3 3 cp3 := by rw [hv3, hl3, HB3.out]
          have bW := HBO.out.kept k3 (fun x => x)
          have o0 : W.cell? ⟨wr.heap.size, 0, none⟩ = some (.int .i64 5) := (Blk.cell bW 0).trans rfl
          have o1 : W.cell? ⟨wr.heap.size, 1, none⟩ = some (.int .i64 x) := (Blk.cell bW 1).trans rfl
          have o2 : W.cell? ⟨wr.heap.size, 2, none⟩ = some (.int .i64 y) := (Blk.cell bW 2).trans rfl
          have TW : Two ⟨pb, lb, cp, wb, 1, 4, 2, 2, 1⟩ ⟨pb2, lb2, cp2, wb2, 1, 4⟩ W bs ds (3 + k) G H := HT1.out.kept k3 (fun _ _ x => x) (fun _ _ x => x)
          have KW : Kept (fun _ => False) w W := (HKK.out.trans HKA.out).trans k3
          clear hv3 hl3 hB3' hr3 hf3 k3 bW
          have HTW := Lib.hid TW
          have HKW0 := Lib.hid KW
          clear TW KW
          go_wp2_with fail
          have TW := HTW.out
          have KW := HKW0.out
          clear HTW HKW0
          have hplay := law_play TW (by omega) 5 x y hy
          have HPLAY := Lib.hid hplay
          have HKW := Lib.hid KW
          clear hplay TW KW HT HT1 HKK HKA HBO HBK o0 o1 o2
          refine HPLAY.out.mono ?_
          rintro e w5 ⟨⟨bb, rfl⟩, hdone⟩
          have HDONE := Lib.hid hdone
          obtain ⟨bs5, ds5, G5, H5, l5, m5, T5, k5, h5⟩ := hdone
          rw [HB3.out] at l5
          have hbk := pool_Backs T5.p (by omega)
          have HBK := Lib.hid hbk
          have HT5 := Lib.hid T5
          have HL5 := Lib.hid l5
          clear hbk T5 k5 h5 l5 m5
          go_wp2_with fail
          refine HBK.out.mono ?_
          rintro e w6 ⟨v6, L6, rfl, hl6, hB6, hr6, hf6, k6⟩
          obtain ⟨ao6, cp6, hv6, hao6⟩ := RS.form hr6
          obtain ⟨g6, rfl⟩ := hao6 (by rw [hl6, HL5.out]; omega)
          obtain rfl : v6 = .slice (some ⟨g6, 0, none⟩) 3 cp6 := by rw [hv6, hl6, HL5.out]
          have T6 := HT5.out.kept k6 (fun _ _ x => x) (fun _ _ x => x)
          have HT6 := Lib.hid T6
          have HL6 := Lib.hid hl6
          have HB6 := Lib.hid hB6
          have HR6 := Lib.hid hr6
          have HK6 := Lib.hid k6
          clear hv6 hao6 T6 hl6 hB6 hr6 hf6 k6
          go_wp2_with fail
          obtain ⟨wo, hwo⟩ : ∃ wo : World, wo = wr := ⟨_, rfl⟩
          go_loop [12] (fun i => ∃ j : Nat, j ≤ 3 ∧ i = .int .i64 j) (fun i => 3 - (intOf i).toNat)
          case atStart => exact ⟨0, by omega, rfl⟩
          case round =>
            obtain ⟨j, hj, rfl⟩ := hrel
            rcases Nat.lt_or_ge j 3 with hj3 | hj3
            · obtain ⟨b, hb⟩ : ∃ b, bs5[j]? = some b := ⟨bs5[j]'(by rw [HL5.out]; exact hj3), List.getElem?_eq_getElem _⟩
              obtain ⟨g, cp7, up, hv7, q0, q1, q2, q3⟩ := backs_at HL6.out HB6.out HR6.out hb
              have hbo := HT6.out.p.b b (List.mem_of_getElem? hb)
              have hg : g6 = g := by injection hv7 with h _ _; injection h with h; injection h with h
              subst hg
              clear hv7
              obtain ⟨sz, hsz⟩ : ∃ z, (if b.st = 2 then max 0 (b.may - b.load) else 0) = z := ⟨_, rfl⟩
              rw [hsz] at q1
              have e1 : decide (sz < 0) = false := by rw [← hsz]; simp; split <;> omega
              have e2 : decide (b.load < 0) = false := by simp; exact hbo.1
              have hst := pool_State HT6.out.p.p HT6.out.p.r HT6.out.p.n (j : Int)
              rw [state_at hb] at hst
              have HSZ := Lib.hid hsz
              have HBX := Lib.hid hb
              clear hsz hbo hb
              cases up
              · clear q3 hst
                go_wp2_with fail
                go_round
                case rel => exact ⟨j + 1, by omega, by simp⟩
                case measure => simp [intOf]; omega
              · rw [q3 rfl] at hst
                have HST := Lib.hid hst
                clear q3 hst
                go_wp2_with (go_at_call 9; refine HST.out.mono ?_; rintro e w' ⟨rfl, rfl⟩)
                go_round
                case rel => exact ⟨j + 1, by omega, by simp⟩
                case measure => simp [intOf]; omega
            · obtain rfl : j = 3 := by omega
              go_wp2_with fail
              go_roundw
              case rel =>
                have hd := HDONE.out
                rw [HB3.out, HD3.out] at hd
                exact LawR.next hlt HG.out HKW.out hd HK6.out
              case measure => simp [intOf]; omega
        · have g0 : decide (0 ≤ x) = false := by simpa using hx0
          clear hx hx0
          go_wp2_with fail
          refine HBK.out.mono ?_
          rintro e W ⟨v3, L3, rfl, hl3, hB3', hr3, hf3, k3⟩
          obtain ⟨ao3, cp3, hv3, _⟩ := RS.form hr3
          obtain rfl : v3 = .slice ao3 3 cp3 := by rw [hv3, hl3, HB3.out]
          have bW := HBO.out.kept k3 (fun x => x)
          have o0 : W.cell? ⟨wr.heap.size, 0, none⟩ = some (.int .i64 5) := (Blk.cell bW 0).trans rfl
          have o1 : W.cell? ⟨wr.heap.size, 1, none⟩ = some (.int .i64 x) := (Blk.cell bW 1).trans rfl
          have o2 : W.cell? ⟨wr.heap.size, 2, none⟩ = some (.int .i64 y) := (Blk.cell bW 2).trans rfl
          have TW : Two ⟨pb, lb, cp, wb, 1, 4, 2, 2, 1⟩ ⟨pb2, lb2, cp2, wb2, 1, 4⟩ W bs ds (3 + k) G H := HT1.out.kept k3 (fun _ _ x => x) (fun _ _ x => x)
          have KW : Kept (fun _ => False) w W := (HKK.out.trans HKA.out).trans k3
          clear hv3 hl3 hB3' hr3 hf3 k3 bW
          have HTW := Lib.hid TW
          have HKW0 := Lib.hid KW
          clear TW KW
          go_wp2_with fail
          have TW := HTW.out
          have KW := HKW0.out
          clear HTW HKW0
          have hplay := law_play TW (by omega) 5 x y hy
          have HPLAY := Lib.hid hplay
          have HKW := Lib.hid KW
          clear hplay TW KW HT HT1 HKK HKA HBO HBK o0 o1 o2
          refine HPLAY.out.mono ?_
          rintro e w5 ⟨⟨bb, rfl⟩, hdone⟩
          have HDONE := Lib.hid hdone
          obtain ⟨bs5, ds5, G5, H5, l5, m5, T5, k5, h5⟩ := hdone
          rw [HB3.out] at l5
          have hbk := pool_Backs T5.p (by omega)
          have HBK := Lib.hid hbk
          have HT5 := Lib.hid T5
          have HL5 := Lib.hid l5
          clear hbk T5 k5 h5 l5 m5
          go_wp2_with fail
          refine HBK.out.mono ?_
          rintro e w6 ⟨v6, L6, rfl, hl6, hB6, hr6, hf6, k6⟩
          obtain ⟨ao6, cp6, hv6, hao6⟩ := RS.form hr6
          obtain ⟨g6, rfl⟩ := hao6 (by rw [hl6, HL5.out]; omega)
          obtain rfl : v6 = .slice (some ⟨g6, 0, none⟩) 3 cp6 := by rw [hv6, hl6, HL5.out]
          have T6 := HT5.out.kept k6 (fun _ _ x => x) (fun _ _ x => x)
          have HT6 := Lib.hid T6
          have HL6 := Lib.hid hl6
          have HB6 := Lib.hid hB6
          have HR6 := Lib.hid hr6
          have HK6 := Lib.hid k6
          clear hv6 hao6 T6 hl6 hB6 hr6 hf6 k6
          go_wp2_with fail
          obtain ⟨wo, hwo⟩ : ∃ wo : World, wo = wr := ⟨_, rfl⟩
          go_loop [12] (fun i => ∃ j : Nat, j ≤ 3 ∧ i = .int .i64 j) (fun i => 3 - (intOf i).toNat)
          case atStart => exact ⟨0, by omega, rfl⟩
          case round =>
            obtain ⟨j, hj, rfl⟩ := hrel
            rcases Nat.lt_or_ge j 3 with hj3 | hj3
            · obtain ⟨b, hb⟩ : ∃ b, bs5[j]? = some b := ⟨bs5[j]'(by rw [HL5.out]; exact hj3), List.getElem?_eq_getElem _⟩
              obtain ⟨g, cp7, up, hv7, q0, q1, q2, q3⟩ := backs_at HL6.out HB6.out HR6.out hb
              have hbo := HT6.out.p.b b (List.mem_of_getElem? hb)
              have hg : g6 = g := by injection hv7 with h _ _; injection h with h; injection h with h
              subst hg
              clear hv7
              obtain ⟨sz, hsz⟩ : ∃ z, (if b.st = 2 then max 0 (b.may - b.load) else 0) = z := ⟨_, rfl⟩
              rw [hsz] at q1
              have e1 : decide (sz < 0) = false := by rw [← hsz]; simp; split <;> omega
              have e2 : decide (b.load < 0) = false := by simp; exact hbo.1
              have hst := pool_State HT6.out.p.p HT6.out.p.r HT6.out.p.n (j : Int)
              rw [state_at hb] at hst
              have HSZ := Lib.hid hsz
              have HBX := Lib.hid hb
              clear hsz hbo hb
              cases up
              · clear q3 hst
                go_wp2_with fail
                go_round
                case rel => exact ⟨j + 1, by omega, by simp⟩
                case measure => simp [intOf]; omega
              · rw [q3 rfl] at hst
                have HST := Lib.hid hst
                clear q3 hst
                go_wp2_with (go_at_call 9; refine HST.out.mono ?_; rintro e w' ⟨rfl, rfl⟩)
                go_round
                case rel => exact ⟨j + 1, by omega, by simp⟩
                case measure => simp [intOf]; omega
            · obtain rfl : j = 3 := by omega
              go_wp2_with fail
              go_roundw
              case rel =>
                have hd := HDONE.out
                rw [HB3.out, HD3.out] at hd
                exact LawR.next hlt HG.out HKW.out hd HK6.out
              case measure => simp [intOf]; omega
    · have g5 : (wh == 5) = false := by simpa using h5
      clear h5
      go_wp2_with fail
      obtain ⟨W, hW⟩ : ∃ W, W = wr.alloc (.cells #[.int .i64 wh, .int .i64 x, .int .i64 y] 33) := ⟨_, rfl⟩
      rw [← hW]
      have TW : Two ⟨pb, lb, cp, wb, 1, 4, 2, 2, 1⟩ ⟨pb2, lb2, cp2, wb2, 1, 4⟩ W bs ds (3 + k) G H := by rw [hW]; exact HT1.out
      have KW : Kept (fun _ => False) w W := by rw [hW]; exact HKK.out.trans HKA.out
      have hplay := law_play TW (by omega) wh x y hy
      have HPLAY := Lib.hid hplay
      have HKW := Lib.hid KW
      clear hW hplay TW KW HT HT1 HKK HKA HBO
      refine HPLAY.out.mono ?_
      rintro e w5 ⟨⟨bb, rfl⟩, hdone⟩
      have HDONE := Lib.hid hdone
      obtain ⟨bs5, ds5, G5, H5, l5, m5, T5, k5, h5⟩ := hdone
      rw [HB3.out] at l5
      have hbk := pool_Backs T5.p (by omega)
      have HBK := Lib.hid hbk
      have HT5 := Lib.hid T5
      have HL5 := Lib.hid l5
      clear hbk T5 k5 h5 l5 m5
      go_wp2_with fail
      refine HBK.out.mono ?_
      rintro e w6 ⟨v6, L6, rfl, hl6, hB6, hr6, hf6, k6⟩
      obtain ⟨ao6, cp6, hv6, hao6⟩ := RS.form hr6
      obtain ⟨g6, rfl⟩ := hao6 (by rw [hl6, HL5.out]; omega)
      obtain rfl : v6 = .slice (some ⟨g6, 0, none⟩) 3 cp6 := by rw [hv6, hl6, HL5.out]
      have T6 := HT5.out.kept k6 (fun _ _ x => x) (fun _ _ x => x)
      have HT6 := Lib.hid T6
      have HL6 := Lib.hid hl6
      have HB6 := Lib.hid hB6
      have HR6 := Lib.hid hr6
      have HK6 := Lib.hid k6
      clear hv6 hao6 T6 hl6 hB6 hr6 hf6 k6
      go_wp2_with fail
      obtain ⟨wo, hwo⟩ : ∃ wo : World, wo = wr := ⟨_, rfl⟩
      go_loop [12] (fun i => ∃ j : Nat, j ≤ 3 ∧ i = .int .i64 j) (fun i => 3 - (intOf i).toNat)
      case atStart => exact ⟨0, by omega, rfl⟩
      case round =>
        obtain ⟨j, hj, rfl⟩ := hrel
        rcases Nat.lt_or_ge j 3 with hj3 | hj3
        · obtain ⟨b, hb⟩ : ∃ b, bs5[j]? = some b := ⟨bs5[j]'(by rw [HL5.out]; exact hj3), List.getElem?_eq_getElem _⟩
          obtain ⟨g, cp7, up, hv7, q0, q1, q2, q3⟩ := backs_at HL6.out HB6.out HR6.out hb
          have hbo := HT6.out.p.b b (List.mem_of_getElem? hb)
          have hg : g6 = g := by injection hv7 with h _ _; injection h with h; injection h with h
          subst hg
          clear hv7
          obtain ⟨sz, hsz⟩ : ∃ z, (if b.st = 2 then max 0 (b.may - b.load) else 0) = z := ⟨_, rfl⟩
          rw [hsz] at q1
          have e1 : decide (sz < 0) = false := by rw [← hsz]; simp; split <;> omega
          have e2 : decide (b.load < 0) = false := by simp; exact hbo.1
          have hst := pool_State HT6.out.p.p HT6.out.p.r HT6.out.p.n (j : Int)
          rw [state_at hb] at hst
          have HSZ := Lib.hid hsz
          have HBX := Lib.hid hb
          clear hsz hbo hb
          cases up
          · clear q3 hst
            go_wp2_with fail
            go_round
            case rel => exact ⟨j + 1, by omega, by simp⟩
            case measure => simp [intOf]; omega
          · rw [q3 rfl] at hst
            have HST := Lib.hid hst
            clear q3 hst
            go_wp2_with (go_at_call 9; refine HST.out.mono ?_; rintro e w' ⟨rfl, rfl⟩)
            go_round
            case rel => exact ⟨j + 1, by omega, by simp⟩
            case measure => simp [intOf]; omega
        · obtain rfl : j = 3 := by omega
          go_wp2_with fail
          go_roundw
          case rel =>
            have hd := HDONE.out
            rw [HB3.out, HD3.out] at hd
            exact LawR.next hlt HG.out HKW.out hd HK6.out
          case measure => simp [intOf]; omega
  · obtain rfl : k = n := by omega
    have haw := law_awake wr
    have HAW := Lib.hid haw
    have HKK := Lib.hid hkk
    clear haw hkk T hb3 hd3 hG
    go_wp2_with fail
    refine HAW.out.mono ?_
    rintro e w9 ⟨rfl, hk9⟩
    have HK9 := Lib.hid hk9
    clear hk9
    go_wp2_with fail
    go_ret
    exact ⟨rfl, HKK.out.trans HK9.out⟩
end Go.Proofs.Ytchgieogdinglaa
