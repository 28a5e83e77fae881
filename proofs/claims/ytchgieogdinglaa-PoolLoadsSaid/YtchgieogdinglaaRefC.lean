/- The reference's wheel: Set, Tick, New. -/
import Derived.Test.YtchgieogdinglaaRefB
set_option linter.unusedSimpArgs false
set_option linter.unusedVariables false
namespace Go.Proofs.Ytchgieogdinglaa
open Go.RowKit
open Ser

section
variable {w w1 : World} {rb n : Nat} {K N : Int} {lv : Value} {L : List Rt}
theorem RWDone.same {K' : Int} (h : RW w rb n K N lv L) (hK : K ≤ K') (x : Int) : RWDone w rb n K' lv (fun _ => True) (.returned (.int .i64 x)) w := ⟨⟨x, rfl⟩, N, lv, L, trivial, h.more hK, Kept.refl _ _, fun q hq => .inl hq⟩

theorem set_row {w w2 wx w3 : World} {lv' : Value} {L' : List Rt} {N' : Int} (h : RW w2 rb n K N' lv' L') (k : Kept (fun k => k = rb ∨ lv.ownBlock = some k) w w2) (hl : ∀ q, lv'.ownBlock = some q → lv.ownBlock = some q ∨ w.heap.size ≤ q) (kx : Kept (fun _ => False) w2 wx) {v' : Value} {m : Nat} {cs : List Value} {x : Rt} (hx : 0 ≤ x.1 ∧ x.1 < n) (hno : ∀ t ∈ L', t.1 ≠ x.1)
    (p : Pushed wx 90 2 lv' m cs v' w3) (hm : m = L'.length + 1 := by rfl) (hcs : cs = L'.flatMap Rt.enc ++ x.enc := by rfl) :
    w3.cell? ⟨rb, 1, none⟩ = some lv' ∧ w3.frozen? ⟨rb, 1, none⟩ = false ∧ RWDone w rb n (K + 1) lv (fun _ => True) (.returned (.int .i64 0)) (w3.setCell ⟨rb, 1, none⟩ v') := by
  have k23 : Kept (fun q => lv'.ownBlock = some q) w2 w3 := (kx.mono (fun _ _ x => x.elim)).trans ((Kept.refl _ _).grown p.grown (fun k hk _ => hk))
  have b3 := h.b.kept k23 h.ne
  have r3 : RS 90 2 Rt.enc w3 v' (L' ++ [x]) := RS.pushed p hm hcs
  have hvb : v'.ownBlock ≠ some rb := fun e => by
    rcases p.where_ rb e with h1 | h1
    · exact h.ne h1
    · have := h.b.lt; have := kx.size; omega
  refine ⟨(Blk.cell b3 1).trans rfl, Blk.frozen b3 1, ⟨0, rfl⟩, N', v', L' ++ [x], trivial, ⟨Blk.set_ b3 1 v', r3.kept (F := fun q => q = rb) ((Kept.refl _ _).put _) (fun q hq e => hvb (by rw [hq, e])), h.n0, by have := h.nK; omega, h.n1, ?_, fun t ht => ?_⟩, ?_, fun q hq => ?_⟩
  · rw [List.map_append, List.nodup_append]
    refine ⟨h.nd, by simp, fun a ha b hb e => ?_⟩
    obtain ⟨t, ht, rfl⟩ := List.mem_map.1 ha
    simp only [List.map_cons, List.map_nil, List.mem_singleton] at hb
    exact hno t ht (e.trans hb)
  · rcases List.mem_append.1 ht with h1 | h1
    · exact h.i t h1
    · simp only [List.mem_singleton] at h1
      subst h1
      exact hx
  · exact (k.trans' k23 (fun i hi e => by
      rcases hl i e with h1 | h1
      · exact .inr h1
      · omega)).setCell (fun _ => .inl rfl) _
  · rcases p.where_ q hq with h1 | h1
    · exact hl q h1
    · right
      have := k.size
      have := kx.size
      omega

set_option maxHeartbeats 1000000 in
set_option maxRecDepth 20000 in
theorem ref_Set (h : RW w rb n K N lv L) (hK : K ≤ 576460752303423488) (id after : Int) (i0 : 0 ≤ id) (i1 : id < n) : Calls Try.prog 18 #[.pointer (some ⟨rb, 0, none⟩), .int .i64 id, .int .i64 after] w (RWDone w rb n (K + 1) lv (fun _ => True)) := by
  have e1 : decide (id < 0) = false := by simp; omega
  have H := Lib.hid h
  have HS := fun x => Lib.hid (RWDone.same (K' := K + 1) h (by omega) x)
  by_cases a1 : after < 1
  · have e2 : decide (after < 1) = true := by simpa using a1
    clear h
    go_enter Try.func18, Try.ntmps18
    go_wp2_with fail
    go_ret
    exact (HS 1).out
  have e2 : decide (after < 1) = false := by simpa using a1
  by_cases a2 : 1073741824 < after
  · have e3 : decide (1073741824 < after) = true := by simpa using a2
    clear h
    go_enter Try.func18, Try.ntmps18
    go_wp2_with fail
    go_ret
    exact (HS 1).out
  have e3 : decide (1073741824 < after) = false := by simpa using a2
  have hfind := ref_find h id
  have HF := Lib.hid hfind
  have hcan := ref_Cancel h id
  have HC := Lib.hid hcan
  obtain ⟨ao, cap, hlv, hao⟩ := h.r.form
  have c1 := h.c1
  rw [hlv] at c1
  have hl := h.len
  have HLV := Lib.hid hlv
  clear h hfind hcan hlv hao
  go_enter Try.func18, Try.ntmps18
  go_wp2_with fail
  refine HF.out.mono ?_
  rintro e w' ⟨i, rfl, hi, rfl⟩
  obtain ⟨q, hq⟩ : ∃ q : Bool, decide (i < 0) = q := ⟨_, rfl⟩
  obtain ⟨r, hr⟩ : ∃ q : Bool, decide (1024 ≤ (L.length : Int)) = q := ⟨_, rfl⟩
  clear hi
  by_cases hqr : (q && r) = true
  · have hq1 : q = true := by cases q <;> simp_all
    have hr1 : r = true := by cases r <;> simp_all
    subst hq1 hr1
    clear hqr
    go_wp2_with fail
    go_ret
    exact (HS 9).out
  · cases q
    case' true =>
      have hr1 : r = false := by cases r <;> simp_all
      subst hr1
    all_goals
      clear hqr
      go_wp2_with fail
      refine HC.out.mono ?_
      rintro e w2 ⟨⟨v, rfl⟩, N', lv', L', hno, hw2, hk2, hl2⟩
      have HNO := Lib.hid hno
      obtain ⟨ao2, cap2, rfl, _⟩ := hw2.r.form
      have d0 := hw2.c0
      have d1 := hw2.c1
      have n0 := hw2.n0
      have nK := hw2.nK
      have lK := hw2.len
      have r2 : RS 90 2 Rt.enc (w2.alloc (.cells #[.int .i64 id, .int .i64 (N' + after)] 90)).drew (.slice ao2 L'.length cap2) L' := hw2.r.kept (F := fun _ => False) (((Kept.refl _ _).alloc _).drew) (fun _ _ x => x)
      have R2 := Lib.hid r2
      have W2 := Lib.hid hw2
      have K2 := Lib.hid hk2
      have HL2 := Lib.hid hl2
      have hrb2 : rb < w2.heap.size := hw2.b.lt
      clear r2 hw2 hk2 hl2 c1 hno
      obtain ⟨i0', hi, hz0', hz1, hz2⟩ := info_parts (P := Try.prog) (e := 90) (z := .agg #[.int .i64 0, .int .i64 0]) (size := 2) (bytes := 16) (by kernel_rfl)
      go_wp2_with fail
      refine wp_region_ser [0,0,0,0,1,0,0,0,0,1,0,0,0,2,3,0,0,3] [0,1,2,3,4,5,6,7,8,9,10,11,12,13,14,15,16,17] (by kernel_rfl) (by kernel_rfl) ?_
      repeat (first | (refine wpSer_skip rfl rfl ?_) | (refine wpSer_calmE rfl rfl rfl rfl rfl rfl (by first | exact trivial | assumption) ?_; apply Exists.intro; refine ⟨?_, ?_⟩; focus (intro _ _ _ hK; go_step; first | exact hK | (rw [if_pos (by omega)]; go_step; exact hK) | (rw [if_neg (by omega)]; go_step; exact hK))))
      (refine wpSer_opI rfl rfl rfl ?_; intro _ hK; go_step; (try first | (rw [if_pos (by omega)]; go_step) | (rw [if_neg (by omega)]; go_step)); refine hK _ _ (by first | exact trivial | assumption) ?_; clear hK)
      repeat (first | (refine wpSer_skip rfl rfl ?_) | (refine wpSer_calmE rfl rfl rfl rfl rfl rfl (by first | exact trivial | assumption) ?_; apply Exists.intro; refine ⟨?_, ?_⟩; focus (intro _ _ _ hK; go_step; first | exact hK | (rw [if_pos (by omega)]; go_step; exact hK) | (rw [if_neg (by omega)]; go_step; exact hK))))
      (refine wpSer_opI rfl rfl rfl ?_; intro _ hK; go_step; (try first | (rw [if_pos (by omega)]; go_step) | (rw [if_neg (by omega)]; go_step)); refine hK _ _ (by first | exact trivial | assumption) ?_; clear hK)
      repeat (first | (refine wpSer_skip rfl rfl ?_) | (refine wpSer_calmE rfl rfl rfl rfl rfl rfl (by first | exact trivial | assumption) ?_; apply Exists.intro; refine ⟨?_, ?_⟩; focus (intro _ _ _ hK; go_step; first | exact hK | (rw [if_pos (by omega)]; go_step; exact hK) | (rw [if_neg (by omega)]; go_step; exact hK))))
      (refine wpSer_opI rfl rfl rfl ?_; intro _ hK; go_step; (try first | (rw [if_pos (by omega)]; go_step) | (rw [if_neg (by omega)]; go_step)); refine hK _ _ (by first | exact trivial | assumption) ?_; clear hK)
      refine wpSer_opI rfl rfl rfl ?_
      intro KK hKK
      refine wp_push _ (.tmp 36) (.tmp 45) 86 rfl 90 i0' (.agg #[.int .i64 0, .int .i64 0]) 2 16 Try.underlying86 hi hz0' hz1 hz2 rfl (by decide) _ L'.length (L'.flatMap Rt.enc) rfl R2.out ⟨w2.heap.size, 0, none⟩ 1 1 [.int .i64 id, .int .i64 (N' + after)] rfl rfl ?_ ?_ ?_ ?_ ?_
      · exact cells_new w2 _ [.int .i64 id, .int .i64 (N' + after)]
      · exact ints_one [id, N' + after]
      · unfold maxLen; omega
      · omega
      intro v' w4 hp
      obtain ⟨ao3, n3, c3, rfl⟩ := hp.slice
      obtain ⟨hc4, hf4, hfin⟩ := set_row (lv := lv) (x := (id, N' + after)) W2.out K2.out HL2.out (((Kept.refl _ _).alloc _).drew) ⟨i0, i1⟩ HNO.out hp
      have HFIN := Lib.hid hfin
      clear hp hfin
      refine hKK _ _ trivial ?_
      clear hKK
      repeat (first | (refine wpSer_skip rfl rfl ?_) | (refine wpSer_calmE rfl rfl rfl rfl rfl rfl (by first | exact trivial | assumption) ?_; apply Exists.intro; refine ⟨?_, ?_⟩; focus (intro _ _ _ hK; go_step; first | exact hK | (rw [if_pos (by omega)]; go_step; exact hK) | (rw [if_neg (by omega)]; go_step; exact hK))))
      (refine wpSer_opI rfl rfl rfl ?_; intro _ hK; go_step; (try first | (rw [if_pos (by omega)]; go_step) | (rw [if_neg (by omega)]; go_step)); refine hK _ _ (by first | exact trivial | assumption) ?_; clear hK)
      (refine wpSer_nil ?_)
      go_wp2_with fail
      go_ret
      exact HFIN.out
end
end Go.Proofs.Ytchgieogdinglaa
