/- The reference's pool: Take, Limit, Opened, empty, Drain, Put, Probe, Failed. -/
import Derived.Test.YtchgieogdinglaaRefE
set_option linter.unusedSimpArgs false
set_option linter.unusedVariables false
namespace Go.Proofs.Ytchgieogdinglaa
open Go.RowKit
open Ser

section
variable {c : RC} {w w1 : World} {bs bs' : List Bk} {K K' : Int} {G : Nat → Prop}
theorem RInv.setSt (I : RInv c w bs K G) {k : Nat} {b : Bk} (hb : bs[k]? = some b) (x : Int) : RInv c (w.setCell ⟨c.lb, k * 5 + 1, none⟩ (.int .i64 x)) (bs.set k { b with st := x }) K G :=
  I.put hb (I.r.put1 hb x) ((Kept.refl _ _).put _) (Int.le_refl _) (I.b b (List.mem_of_getElem? hb)) rfl
theorem RInv.setLoad (I : RInv c w bs K G) {k : Nat} {b : Bk} (hb : bs[k]? = some b) (x : Int) (hx : 0 ≤ x) (hK : K ≤ K') (hx2 : x ≤ K') : RInv c (w.setCell ⟨c.lb, k * 5 + 2, none⟩ (.int .i64 x)) (bs.set k { b with load := x }) K' G :=
  I.put hb (I.r.put2 hb x) ((Kept.refl _ _).put _) hK ⟨hx, hx2, (I.b b (List.mem_of_getElem? hb)).2.2⟩ rfl
theorem RInv.setMay (I : RInv c w bs K G) {k : Nat} {b : Bk} (hb : bs[k]? = some b) (x : Int) : RInv c (w.setCell ⟨c.lb, k * 5 + 3, none⟩ (.int .i64 x)) (bs.set k { b with may := x }) K G :=
  I.put hb (I.r.put3 hb x) ((Kept.refl _ _).put _) (Int.le_refl _) (I.b b (List.mem_of_getElem? hb)) rfl
theorem RInv.setWait (I : RInv c w bs K G) {k : Nat} {b : Bk} (hb : bs[k]? = some b) (x : Int) (h1 : 1 ≤ x) (h2 : x ≤ c.most) : RInv c (w.setCell ⟨c.lb, k * 5 + 4, none⟩ (.int .i64 x)) (bs.set k { b with wait := x }) K G :=
  I.put hb (I.r.put4 hb x) ((Kept.refl _ _).put _) (Int.le_refl _) ⟨(I.b b (List.mem_of_getElem? hb)).1, (I.b b (List.mem_of_getElem? hb)).2.1, h1, h2⟩ rfl
theorem RInv.drewN (I : RInv c w bs K G) (n : Nat) : RInv c (w.drewN n) bs K G := I.kept (H := fun _ => False) ((Kept.refl _ _).drewN _) (fun _ _ x => x) (Int.le_refl _)
theorem RInv.more (I : RInv c w bs K G) (hK : K ≤ K') : RInv c w bs K' G := I.kept (H := fun _ => False) (Kept.refl _ _) (fun _ _ x => x) hK

set_option maxHeartbeats 1000000 in
theorem ref_Take (I : RInv c w bs K G) (hK : K ≤ 576460752303423488) (a : Int) : Calls Try.prog 8 #[.pointer (some ⟨c.pb, 0, none⟩), .int .i64 a] w (RStepped c w bs K G) := by
  have his := ref_Is I a
  have c0 := I.p.c0
  have k0 : Kept (fun _ => False) w w := Kept.refl _ _
  have HI := Lib.hid I
  cases hp : pick bs a with
  | none =>
    rw [hp] at his
    have HIS := Lib.hid his
    clear hp his I
    go_enter Try.func8, Try.ntmps8
    go_wp2_with (go_at_call 22; refine HIS.out.mono ?_; rintro e w' ⟨rfl, rfl⟩)
    go_ret
    exact RStepped.same HI.out k0 1
  | some p =>
    obtain ⟨k, b⟩ := p
    rw [hp] at his
    have HIS := Lib.hid his
    obtain ⟨hb, rfl, hk⟩ := pick_some hp
    obtain ⟨d0, d1, d2, d3, d4⟩ := I.r.cells hb
    have f2 := I.r.frozen (k * 5 + 2)
    have hbo := I.b b (List.mem_of_getElem? hb)
    have l0 := hbo.1
    have l1 := hbo.2.1
    have I2 := I.setLoad hb (b.load + 1) (by omega) (show K ≤ K + 1 by omega) (by omega)
    have hk2 : (k : Int) < (bs.length : Nat) := by omega
    have HB := Lib.hid hb
    clear hp his I hb hbo
    by_cases hs : b.st = 2
    · have es : (b.st == 2) = true := by simpa using hs
      clear hs
      by_cases hm : b.may ≤ b.load
      · have em : decide (b.may ≤ b.load) = true := by simpa using hm
        clear I2
        go_enter Try.func8, Try.ntmps8
        go_wp2_with (go_at_call 22; refine HIS.out.mono ?_; rintro e w' ⟨rfl, rfl⟩)
        go_quiet (fail)
        go_wp2
        go_ret
        exact RStepped.same HI.out (k0.drewN _) 9
      · have em : decide (b.may ≤ b.load) = false := by simpa using hm
        clear I2
        go_enter Try.func8, Try.ntmps8
        go_wp2_with (go_at_call 22; refine HIS.out.mono ?_; rintro e w' ⟨rfl, rfl⟩)
        go_quiet (fail)
        go_wp2
        go_ret
        exact RStepped.row HI.out ((HI.out.drewN _).setLoad HB.out (b.load + 1) (by omega) (by omega) (by omega)) (by simp) (((Kept.refl _ _).drewN _).put _) 0
    · have es : (b.st == 2) = false := by simpa using hs
      clear hs I2
      go_enter Try.func8, Try.ntmps8
      go_wp2_with (go_at_call 22; refine HIS.out.mono ?_; rintro e w' ⟨rfl, rfl⟩)
      go_ret
      exact RStepped.same HI.out k0 5

set_option maxHeartbeats 1000000 in
theorem ref_Limit (I : RInv c w bs K G) (a x : Int) : Calls Try.prog 34 #[.pointer (some ⟨c.pb, 0, none⟩), .int .i64 a, .int .i64 x] w (RStepped c w bs K G) := by
  have his := ref_Is I a
  have c0 := I.p.c0
  have k0 : Kept (fun _ => False) w w := Kept.refl _ _
  have HI := Lib.hid I
  cases hp : pick bs a with
  | none =>
    rw [hp] at his
    have HIS := Lib.hid his
    clear hp his I
    go_enter Try.func34, Try.ntmps34
    go_wp2_with (go_at_call 22; refine HIS.out.mono ?_; rintro e w' ⟨rfl, rfl⟩)
    go_ret
    exact RStepped.same HI.out k0 1
  | some p =>
    obtain ⟨k, b⟩ := p
    rw [hp] at his
    have HIS := Lib.hid his
    obtain ⟨hb, rfl, hk⟩ := pick_some hp
    obtain ⟨d0, d1, d2, d3, d4⟩ := I.r.cells hb
    have f3 := I.r.frozen (k * 5 + 3)
    have hk2 : (k : Int) < (bs.length : Nat) := by omega
    have HB := Lib.hid hb
    clear hp his I hb
    by_cases hs : b.st < 2
    · have es : decide (b.st < 2) = true := by simpa using hs
      go_enter Try.func34, Try.ntmps34
      go_wp2_with (go_at_call 22; refine HIS.out.mono ?_; rintro e w' ⟨rfl, rfl⟩)
      go_ret
      exact RStepped.same HI.out k0 5
    · have es : decide (b.st < 2) = false := by simpa using hs
      by_cases hm : x < 0
      · have em : decide (x < 0) = true := by simpa using hm
        go_enter Try.func34, Try.ntmps34
        go_wp2_with (go_at_call 22; refine HIS.out.mono ?_; rintro e w' ⟨rfl, rfl⟩)
        go_ret
        exact RStepped.same HI.out k0 1
      · have em : decide (x < 0) = false := by simpa using hm
        go_enter Try.func34, Try.ntmps34
        go_wp2_with (go_at_call 22; refine HIS.out.mono ?_; rintro e w' ⟨rfl, rfl⟩)
        go_ret
        exact RStepped.row HI.out ((HI.out.setMay HB.out x).more (by omega)) (by simp) ((Kept.refl _ _).put _) 0

set_option maxHeartbeats 1000000 in
set_option maxRecDepth 20000 in
theorem ref_Opened (I : RInv c w bs K G) (a : Int) : Calls Try.prog 28 #[.pointer (some ⟨c.pb, 0, none⟩), .int .i64 a] w (RStepped c w bs K G) := by
  have his := ref_Is I a
  have c0 := I.p.c0
  have c2 := I.p.c2
  have hlp := I.lb_pb
  have k0 : Kept (fun _ => False) w w := Kept.refl _ _
  have HI := Lib.hid I
  cases hp : pick bs a with
  | none =>
    rw [hp] at his
    have HIS := Lib.hid his
    clear hp his I
    go_enter Try.func28, Try.ntmps28
    go_wp2_with (go_at_call 22; refine HIS.out.mono ?_; rintro e w' ⟨rfl, rfl⟩)
    go_ret
    exact RStepped.same HI.out k0 1
  | some p =>
    obtain ⟨k, b⟩ := p
    rw [hp] at his
    have HIS := Lib.hid his
    obtain ⟨hb, rfl, hk⟩ := pick_some hp
    obtain ⟨d0, d1, d2, d3, d4⟩ := I.r.cells hb
    have f1 := I.r.frozen (k * 5 + 1)
    have f2 := I.r.frozen (k * 5 + 2)
    have f3 := I.r.frozen (k * 5 + 3)
    have f4 := I.r.frozen (k * 5 + 4)
    have hk2 : (k : Int) < (bs.length : Nat) := by omega
    have HB := Lib.hid hb
    clear hp his I hb
    by_cases hs : b.st = 1
    · have es : (b.st == 1) = true := by simpa using hs
      clear hs
      go_enter Try.func28, Try.ntmps28
      go_wp2_with (go_at_call 22; refine HIS.out.mono ?_; rintro e w' ⟨rfl, rfl⟩)
      (refine wp_region_ser [0,0,0,1,0,0,0,0,1,0,0,3] [0,1,2,3,4,5,6,7,8,9,10,11] (by kernel_rfl) (by kernel_rfl) ?_; (repeat (first | (refine wpSer_skip rfl rfl ?_) | (refine wpSer_calmE rfl rfl rfl rfl rfl rfl (by first | exact trivial | assumption) ?_; apply Exists.intro; refine ⟨?_, ?_⟩; focus (intro _ _ _ hK; go_step; first | exact hK | (rw [if_pos (by omega)]; go_step; exact hK) | (rw [if_neg (by omega)]; go_step; exact hK))) | (refine wpSer_opI rfl rfl rfl ?_; intro _ hK; go_step; (try first | (rw [if_pos (by omega)]; go_step) | (rw [if_neg (by omega)]; go_step)); refine hK _ _ (by first | exact trivial | assumption) ?_; clear hK))); refine wpSer_nil ?_)
      go_wp2_with fail
      go_ret
      have hc := HI.out.c1
      have hk0 := HI.out.k0
      have i1 := HI.out.setSt HB.out 2
      have i2 := i1.setLoad (set_at HB.out) 0 (by omega) (Int.le_refl K) (by omega)
      have i3 := i2.setMay (set_at (set_at HB.out)) 0
      have i4 := (i3.setWait (set_at (set_at (set_at HB.out))) c.retry (by omega) (by omega)).drewN 1
      simp only [List.set_set] at i4
      exact RStepped.row HI.out (i4.more (by omega)) (by simp) ((((((Kept.refl _ _).put _).put _).put _).put _).drew) 0
    · have es : (b.st == 1) = false := by simpa using hs
      clear hs
      go_enter Try.func28, Try.ntmps28
      go_wp2_with (go_at_call 22; refine HIS.out.mono ?_; rintro e w' ⟨rfl, rfl⟩)
      go_ret
      exact RStepped.same HI.out k0 5

/-- p.W.Set at a backend's number. -/
theorem ref_wset (I : RInv c w bs K G) (hK : K ≤ 576460752303423488) {k : Nat} (hk : k < bs.length) (after : Int) :
    Calls Try.prog 18 #[.pointer (some ⟨c.wb, 0, none⟩), .int .i64 k, .int .i64 after] w fun e w' => (∃ v, e = .returned (.int .i64 v)) ∧ ∃ G', RInv c w' bs (K + 1) G' ∧ Grew G w G' w' := by
  obtain ⟨N, lv, L, hw, hg⟩ := I.wh
  refine (ref_Set hw hK k after (by omega) (by omega)).mono ?_
  rintro e w' ⟨hv, N', lv', L', _, hw', hk', hl'⟩
  exact ⟨hv, I.wheeled hw hg hw' hk' hl' (by omega)⟩

set_option maxHeartbeats 1000000 in
set_option maxRecDepth 20000 in
theorem ref_empty (I : RInv c w bs K G) (hK : K ≤ 576460752303423488) {k : Nat} (hk : k < bs.length) : Calls Try.prog 49 #[.pointer (some ⟨c.pb, 0, none⟩), .int .i64 k] w fun e w' => e = .returned (.tuple #[]) ∧ RStep c w bs K G w' := by
  obtain ⟨b, hb⟩ : ∃ b, bs[k]? = some b := ⟨_, List.getElem?_eq_getElem hk⟩
  obtain ⟨d0, d1, d2, d3, d4⟩ := I.r.cells hb
  have c0 := I.p.c0
  have c1 := I.p.c1
  have hlp := I.lb_pb
  have f1 := I.r.frozen (k * 5 + 1)
  have hk2 : (k : Int) < (bs.length : Nat) := by omega
  have HI := Lib.hid I
  have HB := Lib.hid hb
  have hset := ref_wset (I.setSt hb 0) hK (k := k) (by simpa using hk) 1
  have HSET := Lib.hid hset
  clear I hb hset
  have HST := Lib.hid (show RStep c w bs K G w from ⟨bs, G, rfl, HI.out.more (by omega), Grew.refl _ _⟩)
  by_cases hs : b.st = 3
  · have es : (b.st == 3) = true := by simpa using hs
    clear hs
    by_cases hl : b.load = 0
    · have el : (b.load == 0) = true := by simpa using hl
      clear hl
      go_enter Try.func49, Try.ntmps49
      go_wp2_with fail
      refine HSET.out.mono ?_
      rintro e w' ⟨⟨v, rfl⟩, G', i1, g1⟩
      have HG := Lib.hid g1
      have HI1 := Lib.hid i1
      clear g1 i1
      go_wp2_with fail
      go_end0
      exact ⟨rfl, _, G', by simp, HI1.out, Grew.trans (Grew.of_kept (F := fun q => q = c.lb) ((Kept.refl _ _).put _) (fun i e => by rw [e]; exact HI.out.gl)) HG.out⟩
    · have el : (b.load == 0) = false := by simpa using hl
      clear hl
      go_enter Try.func49, Try.ntmps49
      go_wp2_with fail
      go_end0
      exact ⟨rfl, HST.out⟩
  · have es : (b.st == 3) = false := by simpa using hs
    clear hs
    go_enter Try.func49, Try.ntmps49
    go_wp2_with fail
    go_end0
    exact ⟨rfl, HST.out⟩

set_option maxHeartbeats 1000000 in
set_option maxRecDepth 20000 in
theorem ref_Drain (I : RInv c w bs K G) (hK : K ≤ 576460752303423488) (a : Int) : Calls Try.prog 32 #[.pointer (some ⟨c.pb, 0, none⟩), .int .i64 a] w (RStepped c w bs K G) := by
  have his := ref_Is I a
  have c0 := I.p.c0
  have k0 : Kept (fun _ => False) w w := Kept.refl _ _
  have HI := Lib.hid I
  cases hp : pick bs a with
  | none =>
    rw [hp] at his
    have HIS := Lib.hid his
    clear hp his I
    go_enter Try.func32, Try.ntmps32
    go_wp2_with (go_at_call 22; refine HIS.out.mono ?_; rintro e w' ⟨rfl, rfl⟩)
    go_ret
    exact RStepped.same HI.out k0 1
  | some p =>
    obtain ⟨k, b⟩ := p
    rw [hp] at his
    have HIS := Lib.hid his
    obtain ⟨hb, rfl, hk⟩ := pick_some hp
    obtain ⟨d0, d1, d2, d3, d4⟩ := I.r.cells hb
    have f1 := I.r.frozen (k * 5 + 1)
    have hk2 : (k : Int) < (bs.length : Nat) := by omega
    have hset := ref_empty (I.setSt hb 3) hK (k := k) (by simpa using hk)
    have HSET := Lib.hid hset
    clear hp his I hb hset
    by_cases hs : b.st = 2
    · have es : (b.st == 2) = true := by simpa using hs
      clear hs
      go_enter Try.func32, Try.ntmps32
      go_wp2_with (go_at_call 22; refine HIS.out.mono ?_; rintro e w' ⟨rfl, rfl⟩)
      refine HSET.out.mono ?_
      rintro e w' ⟨rfl, hst⟩
      have HS := Lib.hid hst
      clear hst
      go_wp2_with fail
      go_ret
      exact RStepped.after (Grew.of_kept (F := fun q => q = c.lb) ((Kept.refl _ _).put _) (fun i e => by rw [e]; exact HI.out.gl)) (by simp) HS.out 0
    · have es : (b.st == 2) = false := by simpa using hs
      clear hs
      go_enter Try.func32, Try.ntmps32
      go_wp2_with (go_at_call 22; refine HIS.out.mono ?_; rintro e w' ⟨rfl, rfl⟩)
      go_ret
      exact RStepped.same HI.out k0 5

set_option maxHeartbeats 1000000 in
set_option maxRecDepth 20000 in
theorem ref_Put (I : RInv c w bs K G) (hK : K ≤ 576460752303423488) (a : Int) : Calls Try.prog 36 #[.pointer (some ⟨c.pb, 0, none⟩), .int .i64 a] w (RStepped c w bs K G) := by
  have his := ref_Is I a
  have c0 := I.p.c0
  have k0 : Kept (fun _ => False) w w := Kept.refl _ _
  have HI := Lib.hid I
  cases hp : pick bs a with
  | none =>
    rw [hp] at his
    have HIS := Lib.hid his
    clear hp his I
    go_enter Try.func36, Try.ntmps36
    go_wp2_with (go_at_call 22; refine HIS.out.mono ?_; rintro e w' ⟨rfl, rfl⟩)
    go_ret
    exact RStepped.same HI.out k0 1
  | some p =>
    obtain ⟨k, b⟩ := p
    rw [hp] at his
    have HIS := Lib.hid his
    obtain ⟨hb, rfl, hk⟩ := pick_some hp
    obtain ⟨d0, d1, d2, d3, d4⟩ := I.r.cells hb
    have f2 := I.r.frozen (k * 5 + 2)
    have hk2 : (k : Int) < (bs.length : Nat) := by omega
    have hbo := I.b b (List.mem_of_getElem? hb)
    have l0 := hbo.1
    have l1 := hbo.2.1
    have HB := Lib.hid hb
    clear hp his I hb hbo
    by_cases hs : b.load = 0
    · have es : (b.load == 0) = true := by simpa using hs
      clear hs
      go_enter Try.func36, Try.ntmps36
      go_wp2_with (go_at_call 22; refine HIS.out.mono ?_; rintro e w' ⟨rfl, rfl⟩)
      go_ret
      exact RStepped.same HI.out k0 5
    · have es : (b.load == 0) = false := by simpa using hs
      have hset := ref_empty (HI.out.setLoad HB.out (b.load - 1) (by omega) (Int.le_refl K) (by omega)) hK (k := k) (by simpa using hk)
      have HSET := Lib.hid hset
      clear hs hset
      go_enter Try.func36, Try.ntmps36
      go_wp2_with (go_at_call 22; refine HIS.out.mono ?_; rintro e w' ⟨rfl, rfl⟩)
      refine HSET.out.mono ?_
      rintro e w' ⟨rfl, hst⟩
      have HS := Lib.hid hst
      clear hst
      go_wp2_with fail
      go_ret
      exact RStepped.after (Grew.of_kept (F := fun q => q = c.lb) ((Kept.refl _ _).put _) (fun i e => by rw [e]; exact HI.out.gl)) (by simp) HS.out 0

set_option maxHeartbeats 1000000 in
set_option maxRecDepth 20000 in
theorem ref_Probe (I : RInv c w bs K G) (hK : K ≤ 576460752303423488) (a : Int) (good : Bool) : Calls Try.prog 38 #[.pointer (some ⟨c.pb, 0, none⟩), .int .i64 a, .bool good] w (RStepped c w bs K G) := by
  have his := ref_Is I a
  have c0 := I.p.c0
  have k0 : Kept (fun _ => False) w w := Kept.refl _ _
  have HI := Lib.hid I
  cases hp : pick bs a with
  | none =>
    rw [hp] at his
    have HIS := Lib.hid his
    clear hp his I
    go_enter Try.func38, Try.ntmps38
    go_wp2_with (go_at_call 22; refine HIS.out.mono ?_; rintro e w' ⟨rfl, rfl⟩)
    go_ret
    exact RStepped.same HI.out k0 1
  | some p =>
    obtain ⟨k, b⟩ := p
    rw [hp] at his
    have HIS := Lib.hid his
    obtain ⟨hb, rfl, hk⟩ := pick_some hp
    obtain ⟨d0, d1, d2, d3, d4⟩ := I.r.cells hb
    have hk2 : (k : Int) < (bs.length : Nat) := by omega
    have hmem := List.mem_of_getElem? hb
    have hpr := ref_hProbe (I.h b hmem) hK good
    have HPR := Lib.hid hpr
    have HM := Lib.hid hmem
    clear hp his I hb hpr hmem
    go_enter Try.func38, Try.ntmps38
    go_wp2_with (go_at_call 22; refine HIS.out.mono ?_; rintro e w' ⟨rfl, rfl⟩)
    refine HPR.out.mono ?_
    rintro e w1 ⟨rfl, hm, hk1⟩
    have HF := Lib.hid (show RStepped c w bs K G (.returned (.int .i64 0)) w1 from ⟨⟨0, rfl⟩, bs, G, rfl, HI.out.healed HM.out hk1 hm (by omega), Grew.of_kept hk1 (fun i e => by rw [e]; exact HI.out.gh b HM.out)⟩)
    clear hm hk1
    go_wp2_with fail
    go_ret
    exact HF.out
end
end Go.Proofs.Ytchgieogdinglaa
