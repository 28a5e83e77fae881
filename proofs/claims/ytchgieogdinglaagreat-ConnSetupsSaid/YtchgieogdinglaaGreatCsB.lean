/- ConnSetups: the settings. -/
import Derived.Test.YtchgieogdinglaaGreatCsA
import Derived.Test.YtchgieogdinglaaGreatRange
import Derived.Test.YtchgieogdinglaaGreatLaws
import Derived.Laws.EntriesVeiled
set_option linter.unusedSimpArgs false
set_option linter.unusedVariables false
namespace Go.Proofs.YtchgieogdinglaaGreat
open Go.RowKit
open Ser

theorem rules_within (a b c : Int) (w : World) : Calls Tryz.prog 44 #[.int .u32 a, .int .u32 b, .int .i64 c] w fun e w' => (∃ cs, e = .returned (.func (.func 45) #[] cs)) ∧ Kept (fun _ => False) w w' := by
  go_enter Tryz.func44, Tryz.ntmps44
  go_wp2_with fail
  go_ret
  exact ⟨⟨_, rfl⟩, (((Kept.refl _ _).alloc _).alloc _).alloc _⟩

def Rule (v : Value) : Prop := ∃ (n : Int) (fn : Fn) (ts : Array Value) (cs : Array Value), v = .agg #[.int .u32 n, .func fn ts cs]
/-- Block b is a map of rules. -/
def RulesR (w : World) (b : Nat) : Prop := ∃ m, MapB encI w b m ∧ ∀ p ∈ m, Rule p.2
theorem mset_all {κ : Type} [DecidableEq κ] {Q : Value → Prop} {k : κ} {v : Value} (hv : Q v) : ∀ {m : List (κ × Value)}, (∀ p ∈ m, Q p.2) → ∀ p ∈ mset k v m, Q p.2
  | [], _, p, hp => by
    simp [mset] at hp
    rw [hp]; exact hv
  | (a, u) :: r, h, p, hp => by
    unfold mset at hp
    split at hp
    · rcases List.mem_cons.1 hp with rfl | hp
      · exact hv
      · exact h p (List.mem_cons_of_mem _ hp)
    · rcases List.mem_cons.1 hp with rfl | hp
      · exact h (a, u) List.mem_cons_self
      · exact mset_all hv (fun q hq => h q (List.mem_cons_of_mem _ hq)) p hp
theorem RulesR.ins {w : World} {b : Nat} (h : RulesR w b) (k n : Int) (fn : Fn) (ts : Array Value) (cs : Array Value) :
    ∃ w', (Instr.mapUpdate 75 (.map (some b)) (.int .i64 k) (.agg #[.int .u32 n, .func fn ts cs])).run Tryz.prog w = .ok () w' ∧ RulesR w' b ∧ Kept (· = b) w w' := by
  obtain ⟨m, hm, hr⟩ := h
  obtain ⟨o, h1, h2⟩ := run_msetB (P := Tryz.prog) keyI Tryz.underlying75 Tryz.underlying3 hm k (.agg #[.int .u32 n, .func fn ts cs])
  exact ⟨_, h1, ⟨_, h2, mset_all ⟨n, fn, ts, cs, rfl⟩ hr⟩, Kept.mput_ _ _ _⟩
theorem RulesR.kept {F : Nat → Prop} {w w1 : World} {b : Nat} (h : RulesR w b) (k : Kept F w w1) (hb : ¬ F b) : RulesR w1 b := by
  obtain ⟨m, hm, hr⟩ := h
  exact ⟨m, hm.kept k hb, hr⟩

set_option maxRecDepth 100000 in
theorem setting_rules (w : World) : Calls Tryz.prog 30 #[] w fun e w' => ∃ b, e = .returned (.map (some b)) ∧ RulesR w' b ∧ w.heap.size ≤ b ∧ Kept (fun _ => False) w w' := by
  have hmm := @run_makeMap Tryz.prog
  have r0 : RulesR (w.alloc (.map #[] 0)) w.heap.size := ⟨[], MapB.new encI w, by simp⟩
  obtain ⟨w1, e1, r1, k1⟩ := r0.ins 1 4096 (.func 43) #[] #[]
  have R1 := Lib.hid r1
  have K1 := Lib.hid (((Kept.refl (fun _ => False) w).alloc (.map #[] 0)).trans' k1 (fun i hi e => by omega))
  clear r0 r1 k1
  go_enter Tryz.func30, Tryz.ntmps30
  go_wp2_with fail
  refine (rules_within 0 1 1 _).mono ?_
  rintro e v1 ⟨⟨f1, rfl⟩, q1⟩
  obtain ⟨w2, e2, r2, k2⟩ := (R1.out.kept q1 (fun x => x)).ins 2 1 (.func 45) #[] f1
  have K2 := Lib.hid ((K1.out.trans q1).trans' k2 (fun i hi e => by omega))
  obtain ⟨w3, e3, r3, k3⟩ := r2.ins 3 4294967295 (.func 43) #[] #[]
  have K3 := Lib.hid (K2.out.trans' k3 (fun i hi e => by omega))
  have R3 := Lib.hid r3
  clear q1 r2 k2 r3 k3 e1
  go_wp2_with fail
  refine (rules_within 0 2147483647 3 _).mono ?_
  rintro e v3 ⟨⟨f3, rfl⟩, q3⟩
  obtain ⟨w4, e4, r4, k4⟩ := (R3.out.kept q3 (fun x => x)).ins 4 65535 (.func 45) #[] f3
  have K4 := Lib.hid ((K3.out.trans q3).trans' k4 (fun i hi e => by omega))
  have R4 := Lib.hid r4
  clear q3 r4 k4 e3
  go_wp2_with fail
  refine (rules_within 16384 16777215 1 _).mono ?_
  rintro e v4 ⟨⟨f4, rfl⟩, q4⟩
  obtain ⟨w5, e5, r5, k5⟩ := (R4.out.kept q4 (fun x => x)).ins 5 16384 (.func 45) #[] f4
  have K5 := Lib.hid ((K4.out.trans q4).trans' k5 (fun i hi e => by omega))
  obtain ⟨w6, e6, r6, k6⟩ := r5.ins 6 4294967295 (.func 43) #[] #[]
  have K6 := Lib.hid (K5.out.trans' k6 (fun i hi e => by omega))
  have R6 := Lib.hid r6
  clear q4 r5 k5 r6 k6 e4
  go_wp2_with fail
  refine (rules_within 0 1 1 _).mono ?_
  rintro e v6 ⟨⟨f6, rfl⟩, q6⟩
  obtain ⟨w7, e7, r7, k7⟩ := (R6.out.kept q6 (fun x => x)).ins 8 0 (.func 45) #[] f6
  have K7 := Lib.hid ((K6.out.trans q6).trans' k7 (fun i hi e => by omega))
  have R7 := Lib.hid r7
  clear q6 r7 k7 e6
  go_wp2_with fail
  go_ret
  exact ⟨_, rfl, R7.out, Nat.le_refl _, K7.out⟩

/-- Settings in block b: their values' map, and no offers. -/
def SetMade (w : World) (e : Ending) (w' : World) : Prop := ∃ b mb, e = .returned (.pointer (some ⟨b, 0, none⟩)) ∧ Blk w' b 74 #[.map (some mb), .slice none 0 0] ∧ w.heap.size ≤ b ∧ Kept (fun _ => False) w w'
/-- A round of New's loop. -/
def SetR (w0 : World) (b mb r bm : Nat) (m : List (Int × Value)) (wr : World) : Prop :=
  (∃ left, IterB encI wr r bm m left) ∧ Blk wr b 74 #[.map (some mb), .slice none 0 0] ∧ (∃ m2, IsMap encI wr mb m2) ∧ w0.heap.size ≤ mb ∧ w0.heap.size ≤ r ∧ Kept (fun _ => False) w0 wr

set_option maxRecDepth 100000 in
theorem setting_New (w : World) : Calls Tryz.prog 11 #[] w (SetMade w) := by
  have hmm := @run_makeMap Tryz.prog
  have hru := setting_rules ((w.alloc (.map #[] 0)).alloc (.cells #[.map (some w.heap.size), .slice none 0 0] 74))
  have HRU := Lib.hid hru
  clear hru
  go_enter Tryz.func11, Tryz.ntmps11
  go_wp2_with fail
  refine HRU.out.mono ?_
  rintro e w1 ⟨bm, rfl, ⟨m, hm, hall⟩, hbm, hk⟩
  obtain ⟨o, hrun, hit⟩ := hm.range (P := Tryz.prog) Tryz.underlying75
  have ST := Lib.hid (show SetR w (w.heap.size + 1) w.heap.size w1.heap.size bm m (w1.alloc o) from
    ⟨⟨_, hit⟩, (Blk.kept (Blk.new' _ 74 #[.map (some w.heap.size), .slice none 0 0] (by simp)) hk (fun x => x)).alloc _, ⟨[], ((IsMap.new encI w).alloc _ |>.kept hk (fun x => x)).alloc _⟩, Nat.le_refl _, by have := hk.size; simp at this; omega, (((Kept.refl _ _).alloc _).alloc _ |>.trans hk).alloc _⟩)
  have HALL := Lib.hid hall
  have hne : bm ≠ w.heap.size := by simp at hbm; omega
  have hne2 : bm ≠ w.heap.size + 1 := by simp at hbm; omega
  have hne3 : bm < w1.heap.size := hm.lt
  have hs1 : w.heap.size + 2 ≤ w1.heap.size := by have := hk.size; simp at this; omega
  have hbm' : w.heap.size + 2 ≤ bm := by simp at hbm; omega
  clear hm hall hbm hk hit HRU
  go_wp2_with fail
  clear hrun
  go_loopw [2] (fun _ wr => SetR w (w.heap.size + 1) w.heap.size w1.heap.size bm m wr) (fun _ wr => iterLeft wr w1.heap.size bm)
  case atStart => exact ST.out
  obtain ⟨⟨left, hi⟩, hb, ⟨m2, hm2⟩, hmb, hr, hk⟩ := hrel
  have HI := Lib.hid hi
  have HB := Lib.hid hb
  have HK := Lib.hid hk
  rcases hi.next (P := Tryz.prog) 0 with ⟨h0, hrun⟩ | ⟨k, v, w2, left', hkv, hrun, hi2, hlt, hk2, hen⟩
  · clear hi hb hm2 hk h0
    go_wp2_with fail
    go_ret
    exact ⟨_, _, rfl, HB.out, by omega, HK.out⟩
  · obtain ⟨n, fn, ts, cs, rfl⟩ := HALL.out _ hkv
    have hr0 := hi.lt
    have b2 := (hb.kept hk2 (by omega)).alloc (.cells #[.int .u32 n, .func fn ts cs] 79)
    have m2' := ((hm2.kept hk2 (by omega)).alloc (.cells #[.int .u32 n, .func fn ts cs] 79)).drew
    obtain ⟨ob, hset, hm3⟩ := run_mset (P := Tryz.prog) keyI Tryz.underlying69 Tryz.underlying3 m2' k (.int .u32 n)
    have c0 := (Blk.cell b2 0).trans rfl
    have HM3 := Lib.hid hm3
    have HB2 := Lib.hid b2
    have HI2 := Lib.hid hi2
    have HK2 := Lib.hid hk2
    clear hi hb hm2 hk hkv hi2 hk2 b2 m2' hm3
    go_wp2_with fail
    (refine wp_region_ser [0,0,0,1,0,0,1,3] [0,1,2,3,4,5,6,7] (by kernel_rfl) (by kernel_rfl) ?_; (repeat (first | (refine wpSer_skip rfl rfl ?_) | (refine wpSer_calmE rfl rfl rfl rfl rfl rfl (by first | exact trivial | assumption) ?_; apply Exists.intro; refine ⟨?_, ?_⟩; focus (intro _ _ _ hK; go_step; first | exact hK | (rw [if_pos (by omega)]; go_step; exact hK) | (rw [if_neg (by omega)]; go_step; exact hK))) | (refine wpSer_opI rfl rfl rfl ?_; intro _ hK; go_step; (try first | (rw [if_pos (by omega)]; go_step) | (rw [if_neg (by omega)]; go_step)); refine hK _ _ (by first | exact trivial | assumption) ?_; clear hK))); refine wpSer_nil ?_)
    go_wp2_with fail
    go_roundw
    case rel =>
      have s0 := HK2.out.size
      have kk : Kept (fun _ => False) w (mput ((w2.alloc (.cells #[.int .u32 n, .func fn ts cs] 79)).drew) w.heap.size ob) :=
        ((HK.out.trans' HK2.out (fun i hi e => by omega)).alloc _).drew.trans' (Kept.mput_ _ _ _) (fun i hi e => by omega)
      exact ⟨⟨_, (((HI2.out.kept ((Kept.refl (fun _ => False) _).alloc _) (fun x => x) (fun x => x)).kept (Kept.refl (fun _ => False) _).drew (fun x => x) (fun x => x)).kept (Kept.mput_ _ _ _) (by omega) (by omega))⟩, HB2.out.drew.kept (Kept.mput_ _ _ _) (by omega), ⟨_, HM3.out⟩, hmb, hr, kk⟩
    case measure =>
      rw [HI.out.left_eq]
      have h := (((HI2.out.kept ((Kept.refl (fun _ => False) _).alloc (.cells #[.int .u32 n, .func fn ts cs] 79)) (fun x => x) (fun x => x)).kept (Kept.refl (fun _ => False) _).drew (fun x => x) (fun x => x)).kept (Kept.mput_ _ w.heap.size ob) (by omega) (by omega))
      rw [h.left_eq]
      exact hlt
end Go.Proofs.YtchgieogdinglaaGreat
