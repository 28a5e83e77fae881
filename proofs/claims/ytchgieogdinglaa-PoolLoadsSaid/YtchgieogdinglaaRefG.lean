/- The reference's pool: Failed, Tick. -/
import Derived.Test.YtchgieogdinglaaRefF
set_option linter.unusedSimpArgs false
set_option linter.unusedVariables false
namespace Go.Proofs.Ytchgieogdinglaa
open Go.RowKit
open Ser

section
variable {c : RC} {w w1 : World} {bs bs' : List Bk} {K K' : Int} {G : Nat → Prop}
set_option maxHeartbeats 1000000 in
set_option maxRecDepth 20000 in
theorem ref_Failed (I : RInv c w bs K G) (hK : K ≤ 576460752303423488) (a : Int) : Calls Try.prog 30 #[.pointer (some ⟨c.pb, 0, none⟩), .int .i64 a] w (RStepped c w bs K G) := by
  have his := ref_Is I a
  have c0 := I.p.c0
  have k0 : Kept (fun _ => False) w w := Kept.refl _ _
  have HI := Lib.hid I
  cases hp : pick bs a with
  | none =>
    rw [hp] at his
    have HIS := Lib.hid his
    clear hp his I
    go_enter Try.func30, Try.ntmps30
    go_wp2_with (go_at_call 22; refine HIS.out.mono ?_; rintro e w' ⟨rfl, rfl⟩)
    go_ret
    exact RStepped.same HI.out k0 1
  | some p =>
    obtain ⟨k, b⟩ := p
    rw [hp] at his
    have HIS := Lib.hid his
    obtain ⟨hb, rfl, hk⟩ := pick_some hp
    obtain ⟨d0, d1, d2, d3, d4⟩ := I.r.cells hb
    have f1 := I.r.frozen (k * 5 + 1)
    have f2 := I.r.frozen (k * 5 + 2)
    have hk2 : (k : Int) < (bs.length : Nat) := by omega
    by_cases hs : b.st = 0
    · have es : (b.st == 0) = true := by simpa using hs
      clear hp his I hb hs
      go_enter Try.func30, Try.ntmps30
      go_wp2_with (go_at_call 22; refine HIS.out.mono ?_; rintro e w' ⟨rfl, rfl⟩)
      go_ret
      exact RStepped.same HI.out k0 5
    · have es : (b.st == 0) = false := by simpa using hs
      have hbo := I.b b (List.mem_of_getElem? hb)
      have hk0 := I.k0
      have hc1 := I.c1
      have i1 := I.setSt hb 0
      have i2 := i1.setLoad (set_at hb) 0 (by omega) (Int.le_refl K) (by omega)
      have g2 : Grew G w G ((w.setCell ⟨c.lb, k * 5 + 1, none⟩ (.int .i64 0)).setCell ⟨c.lb, k * 5 + 2, none⟩ (.int .i64 0)) := Grew.of_kept (F := fun q => q = c.lb) (((Kept.refl _ _).put _).put _) (fun i e => by rw [e]; exact I.gl)
      rw [List.set_set] at i2
      simp only at i2
      generalize hw3 : (w.setCell ⟨c.lb, k * 5 + 1, none⟩ (.int .i64 0)).setCell ⟨c.lb, k * 5 + 2, none⟩ (.int .i64 0) = w3 at i2 g2
      have hb3 : (bs.set k { b with st := 0, load := 0 })[k]? = some { b with st := 0, load := 0 } := set_at hb
      obtain ⟨e0, e1, e2, e3, e4⟩ := i2.r.cells hb3
      have p0 := i2.p.c0
      have p1 := i2.p.c1
      simp only [List.length_set] at p0
      have hset := ref_wset (i2.drewN 1) hK (k := k) (by simpa using hk) b.wait
      have HSET := Lib.hid hset
      have HB3 := Lib.hid hb3
      have HI2 := Lib.hid i2
      have HG2 := Lib.hid g2
      have hw1 := hbo.2.2.1
      have hw2 := hbo.2.2.2
      simp only at e4
      clear hp his I hb hs hbo i1 i2 g2 hb3 hset e0 e1 e2 e3
      go_enter Try.func30, Try.ntmps30
      go_wp2_with (go_at_call 22; refine HIS.out.mono ?_; rintro e w' ⟨rfl, rfl⟩)
      refine wp_region_ser [0,0,0,1,0,0,0,0,1,0,0,0,1,3] [0,1,2,3,4,5,6,7,8,9,10,11,12,13] (by kernel_rfl) (by kernel_rfl) ?_
      repeat (first | (refine wpSer_skip rfl rfl ?_) | (refine wpSer_calmE rfl rfl rfl rfl rfl rfl (by first | exact trivial | assumption) ?_; apply Exists.intro; refine ⟨?_, ?_⟩; focus (intro _ _ _ hK; go_step; first | exact hK | (rw [if_pos (by omega)]; go_step; exact hK) | (rw [if_neg (by omega)]; go_step; exact hK))) | (refine wpSer_opI rfl rfl rfl ?_; intro _ hK; go_step; (try first | (rw [if_pos (by omega)]; go_step) | (rw [if_neg (by omega)]; go_step)); refine hK _ _ (by first | exact trivial | assumption) ?_; clear hK))
      refine wpSer_opI rfl rfl rfl ?_
      intro _ hK
      go_step
      refine HSET.out.mono ?_
      rintro e w4 ⟨⟨v, rfl⟩, G4, i4, g4⟩
      refine hK _ _ trivial ?_
      clear hK
      (refine wpSer_nil ?_)
      have hb4 := HB3.out
      have fr4 := i4.r.frozen (k * 5 + 4)
      obtain ⟨e0, e1, e2, e3, e4'⟩ := i4.r.cells hb4
      have q0 := i4.p.c0
      have q3 := i4.p.c3
      simp only [List.length_set] at q0
      simp only at e4'
      have H4 := Lib.hid i4
      have HG4 := Lib.hid g4
      clear i4 g4 hb4 p0 p1 d0 d1 d2 d3 d4 e4 f1 f2 e0 e1 e2 e3 c0 hw3
      go_wp2_with fail
      (refine wp_region_ser [0,0,0,1,0,0,0,0,1,0,0,0,1,0,0,0,1,0,0,0,0,3] [0,1,2,3,4,5,6,7,8,9,10,11,12,13,14,15,16,17,18,19,20,21] (by kernel_rfl) (by kernel_rfl) ?_; (repeat (first | (refine wpSer_skip rfl rfl ?_) | (refine wpSer_calmE rfl rfl rfl rfl rfl rfl (by first | exact trivial | assumption) ?_; apply Exists.intro; refine ⟨?_, ?_⟩; focus (intro _ _ _ hK; go_step; first | exact hK | (rw [if_pos (by omega)]; go_step; exact hK) | (rw [if_neg (by omega)]; go_step; exact hK))) | (refine wpSer_opI rfl rfl rfl ?_; intro _ hK; go_step; (try first | (rw [if_pos (by omega)]; go_step) | (rw [if_neg (by omega)]; go_step)); refine hK _ _ (by first | exact trivial | assumption) ?_; clear hK))); refine wpSer_nil ?_)
      go_wp2_with fail
      go_ret
      have i5 := (H4.out.setWait HB3.out (min c.most (2 * b.wait)) (by omega) (by omega)).drewN 1
      have g5 := Grew.trans HG2.out (Grew.trans (Grew.of_kept (F := fun _ => False) ((Kept.refl _ _).drew) (fun _ x => x.elim)) (Grew.trans HG4.out (Grew.of_kept (w' := (w4.setCell ⟨c.lb, k * 5 + 4, none⟩ (.int .i64 (min c.most (2 * b.wait)))).drew) (F := fun q => q = c.lb) (((Kept.refl _ _).put _).drew) (fun i e => by rw [e]; exact H4.out.gl))))
      exact ⟨⟨0, rfl⟩, _, G4, by simp, i5, g5⟩

def RT1 (c : RC) (w : World) (bs : List Bk) (K : Int) (G : Nat → Prop) (i : Value) (wr : World) : Prop := ∃ k : Nat, k ≤ bs.length ∧ i = .int .i64 k ∧ RInv c wr bs K G ∧ Kept G w wr
def RT2 (c : RC) (w w2 : World) (n : Nat) (K : Int) (G G1 : Nat → Prop) (dv : Value) (D : List Int) (ov i : Value) (wr : World) : Prop :=
  ∃ (k : Nat) (bs : List Bk) (O : List Int), k ≤ D.length ∧ i = .int .i64 k ∧ bs.length = n ∧ RInv c wr bs (K + 1) G1 ∧ Kept G w wr ∧ RI 3 wr dv D ∧ RI 3 wr ov O ∧ O.length ≤ k ∧ (∀ q, ov.ownBlock = some q → w2.heap.size ≤ q) ∧ w2.heap.size ≤ wr.heap.size
def RPTicked (c : RC) (w : World) (bs : List Bk) (K : Int) (G : Nat → Prop) (e : Ending) (w' : World) : Prop :=
  ∃ (v : Value) (O : List Int), e = .returned v ∧ RI 3 w' v O ∧ O.length ≤ 1000 ∧ (∀ q, v.ownBlock = some q → w.heap.size ≤ q) ∧ RStep c w bs K G w'

set_option maxHeartbeats 1000000 in
set_option maxRecDepth 20000 in
theorem ref_PTick (I : RInv c w bs K G) (hK : K ≤ 576460752303423488) : Calls Try.prog 26 #[.pointer (some ⟨c.pb, 0, none⟩)] w (RPTicked c w bs K G) := by
  have hn := I.n
  have HT1 := Lib.hid (show RT1 c w bs K G (.int .i64 0) w from ⟨0, Nat.zero_le _, rfl, I, Kept.refl _ _⟩)
  have HI := Lib.hid I
  clear I
  go_enter Try.func26, Try.ntmps26
  go_wp2_with fail
  go_loopw [3] (RT1 c w bs K G) (fun i _ => bs.length - (intOf i).toNat)
  case atStart => exact HT1.out
  obtain ⟨k, hk, rfl, I, hkk⟩ := hrel
  have p0 := I.p.c0
  rcases Nat.lt_or_ge k bs.length with hlt | hge
  · obtain ⟨b, hb⟩ : ∃ b, bs[k]? = some b := ⟨_, List.getElem?_eq_getElem hlt⟩
    obtain ⟨d0, d1, d2, d3, d4⟩ := I.r.cells hb
    have hmem := List.mem_of_getElem? hb
    have ht := ref_hTick (I.h b hmem)
    have HH := Lib.hid ht
    have I' := Lib.hid I
    have HKK := Lib.hid hkk
    have HM := Lib.hid hmem
    clear I hkk hmem ht hb
    go_wp2_with fail
    refine HH.out.mono ?_
    rintro e w1 ⟨rfl, hm1, hk1⟩
    have HR := Lib.hid (show RT1 c w bs K G (.int .i64 ((k : Int) + 1)) w1 from ⟨k + 1, hlt, by simp, I'.out.healed HM.out hk1 hm1 (Int.le_refl _), HKK.out.trans (hk1.mono (fun i _ e => by rw [e]; exact I'.out.gh b HM.out))⟩)
    clear hm1 hk1
    go_wp2_with fail
    go_roundw
    case rel => exact HR.out
    case measure => simp [intOf]; omega
  · have hj2 : k = bs.length := by omega
    subst hj2
    have p1 := I.p.c1
    obtain ⟨N, lv, L, hw, hg⟩ := I.wh
    have ht := ref_Tick hw hK
    have HH := Lib.hid ht
    have I' := Lib.hid I
    have HW := Lib.hid hw
    have HGL := Lib.hid hg
    have HKK := Lib.hid hkk
    clear I hw hg hkk ht
    go_wp2_with fail
    refine HH.out.mono ?_
    rintro e w2 ⟨dv, D, N', lv', L', rfl, hri, hlD, hiD, hfD, hw', hk', hl'⟩
    obtain ⟨G1, i1, g1⟩ := I'.out.wheeled HW.out HGL.out hw' (hk'.mono (fun i _ e => .inl e)) (fun q hq => .inr (hl' q hq)) (show K ≤ K + 1 by omega)
    obtain ⟨ao, cap, rfl, hao⟩ : ∃ ao cap, dv = .slice ao D.length cap ∧ (0 < D.length → ∃ g, ao = some ⟨g, 0, none⟩) := by
      rcases hri.form with ⟨e, e2⟩ | ⟨g, cap, cur, e, _⟩
      · rw [e2]; exact ⟨none, 0, e, fun h => by simp at h⟩
      · exact ⟨_, cap, e, fun _ => ⟨g, rfl⟩⟩
    have hdl : ∀ q, (Value.slice ao D.length cap).ownBlock = some q → q < w2.heap.size := hri.lt
    have kG : Kept G w w2 := HKK.out.trans g1.kept
    have HT2 := Lib.hid (show RT2 c w w2 bs.length K G G1 (.slice ao D.length cap) D (.slice none 0 0) (.int .i64 0) w2 from
      ⟨0, bs, [], Nat.zero_le _, rfl, rfl, i1, kG, hri, RI.nil _, Nat.le_refl _, by simp [Value.ownBlock], Nat.le_refl _⟩)
    have HAO := Lib.hid hao
    have HID := Lib.hid hiD
    have HDL := Lib.hid hdl
    have HG1 := Lib.hid (show ∀ q, G1 q → q < w2.heap.size from i1.lt)
    have HGR := Lib.hid (show ∀ q, G1 q → G q ∨ w.heap.size ≤ q from fun q hq => (g1.home q hq).imp (fun x => x) (fun x => Nat.le_trans HKK.out.size x.1))
    have HK2 := Lib.hid kG
    clear hri hiD hfD hw' hk' hl' i1 g1 hao hdl kG p0 p1
    go_wp2_with fail
    go_loopw [5, 6] (RT2 c w w2 bs.length K G G1 (.slice ao D.length cap) D) (fun _ i _ => D.length - (intOf i).toNat)
    case atStart => exact HT2.out
    obtain ⟨k, bk, O, hk, rfl, hbl, I2, hk3, hri, hro, hol, hof, hsz⟩ := hrel
    rcases Nat.lt_or_ge k D.length with hlt | hge
    · obtain ⟨g, rfl⟩ := HAO.out (by omega)
      have hcell := hri.cell rfl k hlt
      have hxm : D.getD k 0 ∈ D := by
        rw [List.getD_eq_getElem?_getD, List.getElem?_eq_getElem hlt]
        exact List.getElem_mem _
      have hx2 := HID.out _ hxm
      obtain ⟨j, hj⟩ : ∃ j : Nat, D.getD k 0 = j := ⟨(D.getD k 0).toNat, by omega⟩
      rw [hj] at hcell hx2
      obtain ⟨b, hb⟩ : ∃ b, bk[j]? = some b := ⟨_, List.getElem?_eq_getElem (by omega)⟩
      obtain ⟨c0, c1, c2, c3, c4⟩ := I2.r.cells hb
      have p0' := I2.p.c0
      have f1 := I2.r.frozen (j * 5 + 1)
      have hj1 : j < bk.length := by omega
      have hj2 : (j : Int) < (bk.length : Nat) := by omega
      have hlb : c.lb < wr.heap.size := I2.lt _ I2.gl
      have hgl : g ≠ c.lb := fun e => by
        have := own_ne I2.r hri (by decide) c.lb rfl
        exact this (by rw [← e]; rfl)
      have H2 := Lib.hid I2
      have HB := Lib.hid hb
      have HK3 := Lib.hid hk3
      have HRI := Lib.hid hri
      have HRO := Lib.hid hro
      have HOF := Lib.hid hof
      have HJ := Lib.hid hj
      have HBL := Lib.hid hbl
      clear I2 hb hk3 hri hro hof hj hbl hxm
      by_cases hs : b.st = 0
      · have hsb : (b.st == 0) = true := by simpa using hs
        clear hs
        go_wp2_with fail
        go_quiet (fail)
        go_wp2_with fail
        (refine wp_region_ser [0,0,0,1,0,0,0,1,0,0,3] [0,1,2,3,4,5,6,7,8,9,10] (by kernel_rfl) (by kernel_rfl) ?_; (repeat (first | (refine wpSer_skip rfl rfl ?_) | (refine wpSer_calmE rfl rfl rfl rfl rfl rfl (by first | exact trivial | assumption) ?_; apply Exists.intro; refine ⟨?_, ?_⟩; focus (intro _ _ _ hK; go_step; first | exact hK | (rw [if_pos (by omega)]; go_step; exact hK) | (rw [if_neg (by omega)]; go_step; exact hK))) | (refine wpSer_opI rfl rfl rfl ?_; intro _ hK; go_step; (try first | (rw [if_pos (by omega)]; go_step) | (rw [if_neg (by omega)]; go_step)); refine hK _ _ (by first | exact trivial | assumption) ?_; clear hK))); refine wpSer_nil ?_)
        have kV : Kept (fun q => q = c.lb) wr ((wr.drewN (nq + 1)).setCell ⟨c.lb, j * 5 + 1, none⟩ (.int .i64 1)) := ((Kept.refl _ _).drewN _).put _
        have iV : RInv c ((wr.drewN (nq + 1)).setCell ⟨c.lb, j * 5 + 1, none⟩ (.int .i64 1)) (bk.set j { b with st := 1 }) (K + 1) G1 := (H2.out.drewN (nq + 1)).setSt HB.out 1
        generalize (wr.drewN (nq + 1)).setCell ⟨c.lb, j * 5 + 1, none⟩ (.int .i64 1) = V at kV iV ⊢
        have dV := HRI.out.kept kV (fun q hq e => own_ne H2.out.r HRI.out (by decide) c.lb rfl (by rw [hq, e]))
        have oV := HRO.out.kept kV (fun q hq e => own_ne H2.out.r HRO.out (by decide) c.lb rfl (by rw [hq, e]))
        have cV := dV.cell rfl k hlt
        rw [HJ.out] at cV
        have oV5 : RI 3 (V.alloc (.cells #[.int .i64 j] 3)) u5 O := oV.kept (F := fun _ => False) ((Kept.refl _ _).alloc _) (fun _ _ x => x)
        have OV := Lib.hid oV
        have DV := Lib.hid dV
        have OV5 := Lib.hid oV5
        have IV := Lib.hid iV
        have KV := Lib.hid kV
        clear kV iV dV oV oV5 c0 c1 c2 c3 c4 p0' f1 hcell
        obtain ⟨i0', hi, hz0', hz1, hz2⟩ := info_parts (P := Try.prog) (e := 3) (z := .int .i64 0) (size := 1) (bytes := 8) (by kernel_rfl)
        go_wp2_with (at_builtin; refine wpList_push _ rfl _ _ 71 rfl 3 i0' (.int .i64 0) 1 8 Try.underlying71 hi hz0' hz1 hz2 rfl (by decide) _ O.length (O.map (Value.int .i64)) rfl OV5.out ⟨V.heap.size, 0, none⟩ 1 1 [.int .i64 j] rfl rfl ?c1 ?c2 ?c3 ?c4 ?c5)
        case c1 => exact cells_new V _ [.int .i64 j]
        case c2 => exact ints_one [j]
        case c3 => unfold maxLen; omega
        case c4 => omega
        case c5 =>
          intro v' w6 hp
          have HREL := Lib.hid (show RT2 c w w2 bs.length K G G1 (.slice (some ⟨g, 0, none⟩) D.length cap) D v' (.int .i64 ((k : Int) + 1)) w6 from by
            have k6 : Kept (fun q => u5.ownBlock = some q) V w6 := ((Kept.refl _ _).alloc _).trans ((Kept.refl _ _).grown hp.grown (fun k hk _ => hk))
            have s1 := KV.out.size
            refine ⟨k + 1, bk.set j { b with st := 1 }, O ++ [(j : Int)], hlt, by simp, by simp [HBL.out], IV.out.kept k6 (fun q hq e => by have := HOF.out q e; have := HG1.out q hq; omega) (Int.le_refl _), ?_, DV.out.kept k6 (fun q hq e => by have := HOF.out q e; have := HDL.out q hq; omega), ?_, by simp; omega, fun q hq => ?_, by have := k6.size; omega⟩
            · refine (HK3.out.trans' KV.out (fun q hq e => ?_)).trans' k6 (fun q hq e => by have := HOF.out q e; have := HK2.out.size; omega)
              rcases HGR.out c.lb H2.out.gl with h | h
              · rw [e]; exact h
              · omega
            · unfold RI
              rw [List.length_append, List.map_append]
              exact hp.own
            · rcases hp.where_ q hq with h | h
              · exact HOF.out q h
              · simp at h; omega)
          clear hp
          go_wp2_with fail
          go_roundw
          case rel => exact HREL.out
          case measure => simp [intOf]; omega
      · have hsb : (b.st == 0) = false := by simpa using hs
        clear hs
        go_wp2_with fail
        go_quiet (fail)
        have kq : Kept (fun _ => False) wr (wr.drewN nq) := (Kept.refl _ _).drewN _
        have HREL := Lib.hid (show RT2 c w w2 bs.length K G G1 (.slice (some ⟨g, 0, none⟩) D.length cap) D u5 (.int .i64 ((k : Int) + 1)) (wr.drewN nq) from
          ⟨k + 1, bk, O, hlt, by simp, HBL.out, H2.out.drewN nq, HK3.out.trans (kq.mono (fun _ _ x => x.elim)), HRI.out.kept kq (fun _ _ x => x), HRO.out.kept kq (fun _ _ x => x), by omega, HOF.out, hsz⟩)
        go_wp2_with fail
        go_roundw
        case rel => exact HREL.out
        case measure => simp [intOf]; omega
    · have hj2 : k = D.length := by omega
      subst hj2
      have HF := Lib.hid (show RPTicked c w bs K G (.returned u5) wr from ⟨u5, O, rfl, hro, by omega, fun q hq => Nat.le_trans HK2.out.size (hof q hq), bk, G1, hbl, I2, ⟨hk3, fun q hq => by
        rcases HGR.out q hq with h | h
        · exact .inl h
        · exact .inr ⟨h, I2.lt q hq⟩⟩⟩)
      clear I2 hk3 hri hro hof
      go_wp2_with fail
      go_ret
      exact HF.out
end
end Go.Proofs.Ytchgieogdinglaa
