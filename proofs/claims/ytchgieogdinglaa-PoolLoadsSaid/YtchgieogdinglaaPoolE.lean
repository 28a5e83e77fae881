/- pool: Drain, Put, Failed, Probe. -/
import Derived.Test.YtchgieogdinglaaPoolD
set_option linter.unusedSimpArgs false
set_option linter.unusedVariables false
namespace Go.Proofs.Ytchgieogdinglaa
open Go.RowKit
open Ser

section
variable {c : PC} {w w1 : World} {bs bs' : List Bk} {N N' : Int} {G : Nat → Prop}
theorem Stepped.same (I : PInv c w bs N G) (k : Kept (fun _ => False) w w1) (x : Int) : Stepped c w bs N G (.returned (.int .i64 x)) w1 := ⟨⟨x, rfl⟩, Step.same I k⟩

set_option maxHeartbeats 1000000 in
theorem pool_Drain (I : PInv c w bs N G) (hN : N ≤ 576460752303423488) (a : Int) :
    Calls Try.prog 31 #[.pointer (some ⟨c.pb, 0, none⟩), .int .i64 a] w (Stepped c w bs N G) := by
  have hin := pool_in_new I.p I.r I.n a [2] (by simp)
  have hk1 : Kept (fun _ => False) w (w.alloc (.cells #[.int .i64 2] 3)) := (Kept.refl _ _).alloc _
  have I1 : PInv c (w.alloc (.cells #[.int .i64 2] 3)) bs N G := I.kept hk1 (fun _ _ x => x) (by omega)
  simp only [List.map_cons, List.map_nil, List.length_cons, List.length_nil] at hin
  unfold inAns at hin
  have HI := Lib.hid I
  cases hp : pick bs a with
  | none =>
    simp only [hp] at hin
    have HIN := Lib.hid hin
    clear hp hin I I1
    go_enter Try.func31, Try.ntmps31
    go_wp2_with (go_at_call 21; refine HIN.out.mono ?_; rintro e w' ⟨rfl, rfl⟩)
    go_ret
    exact Stepped.same HI.out hk1 1
  | some p =>
    obtain ⟨k, b⟩ := p
    obtain ⟨hbk, rfl, hk⟩ := pick_some hp
    have f1 := I1.r.frozen (k * 5 + 1)
    obtain ⟨c0, c1, c2, c3, c4⟩ := I1.r.cells hbk
    have hbo := I.b b (List.mem_of_getElem? hbk)
    simp only [hp, List.mem_singleton] at hin
    by_cases hs : b.st = 2
    · rw [if_pos hs] at hin
      have HIN := Lib.hid hin
      have I2 : PInv c ((w.alloc (.cells #[.int .i64 2] 3)).setCell ⟨c.lb, k * 5 + 1, none⟩ (.int .i64 3)) (bs.set k { b with st := 3 }) N G := I1.put hbk (I1.r.put1 hbk 3) ((Kept.refl _ _).put _) (by omega) ⟨hbo.1, hbo.2.1, hbo.2.2⟩ rfl
      have g1 : Grew G w G ((w.alloc (.cells #[.int .i64 2] 3)).setCell ⟨c.lb, k * 5 + 1, none⟩ (.int .i64 3)) := Grew.trans (Grew.of_kept hk1 (fun _ x => x.elim)) (Grew.lb I1 ((Kept.refl _ _).put _))
      have hset := pool_settle I2 hN (k := k) (by simpa using hk)
      have HSET := Lib.hid hset
      have HG := Lib.hid g1
      clear hp hin hbk hs I I1 I2 hset g1 hbo
      go_enter Try.func31, Try.ntmps31
      go_wp2_with (go_at_call 21; refine HIN.out.mono ?_; rintro e w' ⟨rfl, rfl⟩)
      refine HSET.out.mono ?_
      rintro e w' ⟨rfl, hst⟩
      have HS := Lib.hid hst
      clear hst
      go_wp2_with fail
      go_ret
      exact ⟨⟨0, rfl⟩, Step.after HG.out (by simp) HS.out⟩
    · rw [if_neg hs] at hin
      have HIN := Lib.hid hin
      clear hp hin hbk hs I I1 hbo
      go_enter Try.func31, Try.ntmps31
      go_wp2_with (go_at_call 21; refine HIN.out.mono ?_; rintro e w' ⟨rfl, rfl⟩)
      go_ret
      exact Stepped.same HI.out hk1 5

set_option maxHeartbeats 1000000 in
theorem pool_Put (I : PInv c w bs N G) (hN : N ≤ 576460752303423488) (a : Int) :
    Calls Try.prog 35 #[.pointer (some ⟨c.pb, 0, none⟩), .int .i64 a] w (Stepped c w bs N G) := by
  have hat := pool_at I.p I.n a
  unfold atAns at hat
  have HI := Lib.hid I
  have hk0 : Kept (fun _ => False) w w := Kept.refl _ _
  cases hp : pick bs a with
  | none =>
    simp only [hp] at hat
    have HAT := Lib.hid hat
    clear hp hat I
    go_enter Try.func35, Try.ntmps35
    go_wp2_with (go_at_call 23; refine HAT.out.mono ?_; rintro e w' ⟨rfl, rfl⟩)
    go_ret
    exact Stepped.same HI.out hk0 1
  | some p =>
    obtain ⟨k, b⟩ := p
    obtain ⟨hbk, rfl, hk⟩ := pick_some hp
    have f1 := I.r.frozen (k * 5 + 2)
    obtain ⟨c0, c1, c2, c3, c4⟩ := I.r.cells hbk
    have hbo := I.b b (List.mem_of_getElem? hbk)
    have hb0 := hbo.1
    have hb1 := hbo.2.1
    simp only [hp] at hat
    have HAT := Lib.hid hat
    clear hp hat
    by_cases hl : b.load = 0
    · have el : (b.load == 0) = true := by simpa using hl
      clear hl I hbo hbk
      go_enter Try.func35, Try.ntmps35
      go_wp2_with (go_at_call 23; refine HAT.out.mono ?_; rintro e w' ⟨rfl, rfl⟩)
      go_ret
      exact Stepped.same HI.out hk0 5
    · have el : (b.load == 0) = false := by simpa using hl
      have I2 : PInv c (w.setCell ⟨c.lb, k * 5 + 2, none⟩ (.int .i64 (b.load - 1))) (bs.set k { b with load := b.load - 1 }) N G := I.put hbk (I.r.put2 hbk _) ((Kept.refl _ _).put _) (by omega) ⟨by simp only; omega, by simp only; omega, hbo.2.2⟩ rfl
      have g1 : Grew G w G (w.setCell ⟨c.lb, k * 5 + 2, none⟩ (.int .i64 (b.load - 1))) := Grew.lb I ((Kept.refl _ _).put _)
      have hset := pool_settle I2 hN (k := k) (by simpa using hk)
      have HSET := Lib.hid hset
      have HG := Lib.hid g1
      have HI2 := Lib.hid I2
      clear hbk I hset g1 hbo I2
      by_cases h3 : b.st = 3
      · have e3 : (b.st == 3) = true := by simpa using h3
        clear h3 hl
        go_enter Try.func35, Try.ntmps35
        go_wp2_with (go_at_call 23; refine HAT.out.mono ?_; rintro e w' ⟨rfl, rfl⟩)
        refine HSET.out.mono ?_
        rintro e w' ⟨rfl, hst⟩
        have HS := Lib.hid hst
        clear hst
        go_wp2_with fail
        go_ret
        exact ⟨⟨0, rfl⟩, Step.after HG.out (by simp) HS.out⟩
      · have e3 : (b.st == 3) = false := by simpa using h3
        clear h3 hl
        go_enter Try.func35, Try.ntmps35
        go_wp2_with (go_at_call 23; refine HAT.out.mono ?_; rintro e w' ⟨rfl, rfl⟩)
        go_ret
        exact ⟨⟨0, rfl⟩, Step.after HG.out (by simp) (Step.same HI2.out (Kept.refl _ _))⟩

set_option maxHeartbeats 1000000 in
theorem pool_Probe (I : PInv c w bs N G) (hN : N ≤ 576460752303423488) (a : Int) (good : Bool) :
    Calls Try.prog 37 #[.pointer (some ⟨c.pb, 0, none⟩), .int .i64 a, .bool good] w (Stepped c w bs N G) := by
  have hat := pool_at I.p I.n a
  unfold atAns at hat
  have HI := Lib.hid I
  have hk0 : Kept (fun _ => False) w w := Kept.refl _ _
  cases hp : pick bs a with
  | none =>
    simp only [hp] at hat
    have HAT := Lib.hid hat
    clear hp hat I
    go_enter Try.func37, Try.ntmps37
    go_wp2_with (go_at_call 23; refine HAT.out.mono ?_; rintro e w' ⟨rfl, rfl⟩)
    go_ret
    exact Stepped.same HI.out hk0 1
  | some p =>
    obtain ⟨k, b⟩ := p
    obtain ⟨hbk, rfl, hk⟩ := pick_some hp
    obtain ⟨c0, c1, c2, c3, c4⟩ := I.r.cells hbk
    have hmem := List.mem_of_getElem? hbk
    obtain ⟨st, rn, ho, hm, hst, hr0, hr1, hh0, hh1⟩ := I.h b hmem
    simp only [hp] at hat
    have HAT := Lib.hid hat
    have hpr := health_Probe b.hb c.fl c.rs c.hd st rn ho good w hm I.c0 hst hr0 (by omega)
    have HPR := Lib.hid hpr
    have fin : ∀ (v : Int) w1, Probed w b.hb c.fl c.rs c.hd (probeOf c.fl c.rs c.hd st rn ho good) (.returned (.int .i64 v)) w1 → Stepped c w bs N G (.returned (.int .i64 v)) w1 := by
      rintro v w1 ⟨hv, h1, h2⟩
      have hn0 := I.n0
      have hc2 := I.c2
      refine ⟨⟨v, rfl⟩, bs, G, rfl, I.healed hmem rfl h2 ⟨_, _, _, h1, ?_⟩ (by omega), Grew.of_kept h2 (fun i e => by rw [e]; exact I.gh b hmem)⟩
      unfold probeOf
      split
      · split
        · exact ⟨.inl rfl, by simp, by simp only; omega, hh0, hh1⟩
        · split
          · exact ⟨.inr rfl, by simp, by simp only; omega, hc2.1, hc2.2⟩
          · exact ⟨.inl rfl, by simp only; omega, by simp only; omega, hh0, hh1⟩
      · split
        · split
          · exact ⟨.inl rfl, by simp, by simp only; omega, by simp, by simp⟩
          · exact ⟨.inr rfl, by simp only; omega, by simp only; omega, hh0, hh1⟩
        · exact ⟨.inr rfl, by simp, by simp only; omega, hh0, hh1⟩
    have HFIN := Lib.hid fin
    clear hp hat I hbk hmem hm hst hr0 hr1 hh0 hh1 hpr fin
    go_enter Try.func37, Try.ntmps37
    go_wp2_with (go_at_call 23; refine HAT.out.mono ?_; rintro e w' ⟨rfl, rfl⟩)
    refine HPR.out.mono ?_
    rintro e w1 hx
    obtain rfl := hx.1
    have HX := Lib.hid hx
    clear hx
    go_wp2_with fail
    go_ret
    exact HFIN.out _ _ HX.out

set_option maxHeartbeats 1000000 in
set_option maxRecDepth 20000 in
theorem pool_Failed (I : PInv c w bs N G) (hN : N ≤ 576460752303423488) (a : Int) :
    Calls Try.prog 29 #[.pointer (some ⟨c.pb, 0, none⟩), .int .i64 a] w (Stepped c w bs N G) := by
  have hin := pool_in_new I.p I.r I.n a [1, 2, 3] (by simp)
  have hk1 : Kept (fun _ => False) w (w.alloc (.cells #[.int .i64 1, .int .i64 2, .int .i64 3] 3)) := (Kept.refl _ _).alloc _
  have I1 : PInv c (w.alloc (.cells #[.int .i64 1, .int .i64 2, .int .i64 3] 3)) bs N G := I.kept hk1 (fun _ _ x => x) (by omega)
  simp only [List.map_cons, List.map_nil, List.length_cons, List.length_nil] at hin
  unfold inAns at hin
  have HI := Lib.hid I
  cases hp : pick bs a with
  | none =>
    simp only [hp] at hin
    have HIN := Lib.hid hin
    clear hp hin I I1
    go_enter Try.func29, Try.ntmps29
    go_wp2_with (go_at_call 21; refine HIN.out.mono ?_; rintro e w' ⟨rfl, rfl⟩)
    go_ret
    exact Stepped.same HI.out hk1 1
  | some p =>
    obtain ⟨k, b⟩ := p
    obtain ⟨hbk, rfl, hk⟩ := pick_some hp
    have f1 := I1.r.frozen (k * 5 + 1)
    have f2 := I1.r.frozen (k * 5 + 2)
    obtain ⟨c0, c1, c2, c3, c4⟩ := I1.r.cells hbk
    have hbo := I.b b (List.mem_of_getElem? hbk)
    simp only [hp] at hin
    by_cases hs : b.st ∈ [1, 2, 3]
    · rw [if_pos hs] at hin
      have HIN := Lib.hid hin
      have I2 := I1.put hbk (I1.r.put1 hbk 0) ((Kept.refl _ _).put _) (Int.le_refl N) (x := { b with st := 0 }) ⟨hbo.1, hbo.2.1, hbo.2.2⟩ rfl
      have I3 := I2.put (set_at hbk) (I2.r.put2 (set_at hbk) 0) ((Kept.refl _ _).put _) (Int.le_refl N) (x := { b with st := 0, load := 0 }) ⟨by simp, I.n0, hbo.2.2⟩ rfl
      have g3 := Grew.trans (Grew.of_kept (G := G) hk1 (fun _ x => x.elim)) (Grew.trans (Grew.lb I1 ((Kept.refl (fun k => k = c.lb) _).put (i := k * 5 + 1) (.int .i64 0))) (Grew.lb I2 ((Kept.refl (fun k => k = c.lb) _).put (i := k * 5 + 2) (.int .i64 0))))
      rw [List.set_set] at I3
      generalize hw3 : (((w.alloc (.cells #[.int .i64 1, .int .i64 2, .int .i64 3] 3)).setCell ⟨c.lb, k * 5 + 1, none⟩ (.int .i64 0)).setCell ⟨c.lb, k * 5 + 2, none⟩ (.int .i64 0)) = w3 at I3 g3
      have hb3 : (bs.set k { b with st := 0, load := 0 })[k]? = some { b with st := 0, load := 0 } := set_at hbk
      obtain ⟨d0, d1, d2, d3, d4⟩ := I3.r.cells hb3
      have p1 := I3.p.c1
      have HG := Lib.hid g3
      have HI3 := Lib.hid I3
      have hw1 := hbo.2.2.2.2.1
      have hw2 := hbo.2.2.2.2.2
      have hw4 := I.c1
      have hset := pool_set (I3.kept (H := fun _ => False) ((Kept.refl _ _).drew) (fun _ _ x => x) (Int.le_refl N)) hN (k := k) (by simpa using hk) b.wait hw1 (by omega)
      have HSET := Lib.hid hset
      have HB3 := Lib.hid hb3
      clear hp hin hbk hs I I1 I2 I3 g3 hb3 hset
      go_enter Try.func29, Try.ntmps29
      go_wp2_with (go_at_call 21; refine HIN.out.mono ?_; rintro e w' ⟨rfl, rfl⟩)
      refine wp_region_ser [0,0,0,1,0,0,0,0,1,3] [0,1,2,3,4,5,6,7,8,9] (by kernel_rfl) (by kernel_rfl) ?_
      repeat (first | (refine wpSer_skip rfl rfl ?_) | (refine wpSer_calmE rfl rfl rfl rfl rfl rfl (by first | exact trivial | assumption) ?_; apply Exists.intro; refine ⟨?_, ?_⟩; focus (intro _ _ _ hK; go_step; first | exact hK | (rw [if_pos (by omega)]; go_step; exact hK) | (rw [if_neg (by omega)]; go_step; exact hK))) | (refine wpSer_opI rfl rfl rfl ?_; intro _ hK; go_step; (try first | (rw [if_pos (by omega)]; go_step) | (rw [if_neg (by omega)]; go_step)); refine hK _ _ (by first | exact trivial | assumption) ?_; clear hK))
      refine wpSer_opI rfl rfl rfl ?_
      intro _ hK
      go_step
      refine HSET.out.mono ?_
      rintro e w4 ⟨rfl, G4, i4, g4⟩
      refine hK _ _ trivial ?_
      clear hK
      (refine wpSer_nil ?_)
      have hb4 := HB3.out
      have fr4 := i4.r.frozen (k * 5 + 4)
      obtain ⟨e0, e1, e2, e3, e4⟩ := i4.r.cells hb4
      have p3 := i4.p.c3
      have H4 := Lib.hid i4
      have HG4 := Lib.hid g4
      clear i4 g4 hb4 p1 d0 d1 d2 d3 d4 c0 c1 c2 c3 c4 f1 f2 e0 e1 e2 e3
      simp only at e4
      go_wp2_with fail
      (refine wp_region_ser [0,0,0,0,1,0,0,0,1,0,0,0,0,3] [0,1,2,3,4,5,6,7,8,9,10,11,12,13] (by kernel_rfl) (by kernel_rfl) ?_; (repeat (first | (refine wpSer_skip rfl rfl ?_) | (refine wpSer_calmE rfl rfl rfl rfl rfl rfl (by first | exact trivial | assumption) ?_; apply Exists.intro; refine ⟨?_, ?_⟩; focus (intro _ _ _ hK; go_step; first | exact hK | (rw [if_pos (by omega)]; go_step; exact hK) | (rw [if_neg (by omega)]; go_step; exact hK))) | (refine wpSer_opI rfl rfl rfl ?_; intro _ hK; go_step; (try first | (rw [if_pos (by omega)]; go_step) | (rw [if_neg (by omega)]; go_step)); refine hK _ _ (by first | exact trivial | assumption) ?_; clear hK))); refine wpSer_nil ?_)
      go_wp2_with fail
      go_ret
      have hn0 := HI.out.n0
      have I5 := H4.out.put HB3.out (H4.out.r.put4 HB3.out (min c.most (2 * b.wait))) ((Kept.refl _ _).put _) (Int.le_refl _) (x := { b with st := 0, load := 0, wait := min c.most (2 * b.wait) }) ⟨by simp, by simp only; omega, hbo.2.2.1, hbo.2.2.2.1, by simp only; omega, by simp only; omega⟩ rfl
      have g5 := Grew.trans HG.out (Grew.trans (Grew.of_kept (F := fun _ => False) ((Kept.refl _ _).drew) (fun _ x => x.elim)) (Grew.trans HG4.out (Grew.trans (Grew.lb (w1 := w4.setCell ⟨c.lb, k * 5 + 4, none⟩ (.int .i64 (min c.most (2 * b.wait)))) H4.out ((Kept.refl _ _).put _)) (Grew.of_kept (F := fun _ => False) ((Kept.refl _ _).drew) (fun _ x => x.elim)))))
      exact ⟨⟨0, rfl⟩, _, G4, by simp, I5.kept (H := fun _ => False) ((Kept.refl _ _).drew) (fun _ _ x => x) (Int.le_refl _), g5⟩
    · rw [if_neg hs] at hin
      have HIN := Lib.hid hin
      clear hp hin hbk hs I I1 hbo
      go_enter Try.func29, Try.ntmps29
      go_wp2_with (go_at_call 21; refine HIN.out.mono ?_; rintro e w' ⟨rfl, rfl⟩)
      go_ret
      exact Stepped.same HI.out hk1 5
end
end Go.Proofs.Ytchgieogdinglaa
