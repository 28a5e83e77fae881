/- wheel.Cancel. -/
import Derived.Test.YtchgieogdinglaaWheelA
import Derived.Test.YtchgieogdinglaaShelf
set_option linter.unusedSimpArgs false
namespace Go.Proofs.Ytchgieogdinglaa
open Go.RowKit

theorem idxFrom_mem {x : Int} : ∀ {l : List Int} (k : Nat), x ∈ l → ∃ i : Nat, Lib.idxFrom l x k = ((k + i : Nat) : Int) ∧ i < l.length ∧ l.take i ++ l.drop (i + 1) = l.erase x
  | [], _, h => by cases h
  | z :: l, k, h => by
    by_cases hz : z = x
    · exact ⟨0, by simp [Lib.idxFrom, hz], by simp, by simp [hz]⟩
    · have hm : x ∈ l := by
        rcases List.mem_cons.1 h with e | e
        · exact absurd e.symm hz
        · exact e
      obtain ⟨i, h1, h2, h3⟩ := idxFrom_mem (k + 1) hm
      refine ⟨i + 1, ?_, by simp; omega, ?_⟩
      · simp only [Lib.idxFrom]
        rw [if_neg (by simpa using hz), h1]
        omega
      · rw [List.erase_cons_tail (by simpa using hz), ← h3]
        simp
theorem idxOf_mem {x : Int} {l : List Int} (h : x ∈ l) : ∃ i : Nat, Lib.idxOf l x = (i : Int) ∧ i < l.length ∧ l.take i ++ l.drop (i + 1) = l.erase x := by
  obtain ⟨i, h1, h2, h3⟩ := idxFrom_mem 0 h
  exact ⟨i, by simpa [Lib.idxOf] using h1, h2, h3⟩

/-- The world behind the look-up and the delete of Cancel. -/
theorem cancel_world {w : World} {b mb : Nat} {nw now set : Int} {ts : List Tim} {sl : List (List Int)} {F : Nat → Prop} {sv : List Value} (h : WheelAt w b nw set ts sl F mb sv) (ok : WOk now set ts sl) (id at_ od : Int) (hl : tlook id ts = some (at_, od)) :
    ∃ (W : World) (g cap : Nat) (xs : List Int), (Builtin.delete_ #[77, 3] 0 #[.map (some mb), .int .i64 id]).run Try.prog (w.alloc (.cells #[.int .i64 id, .int .i64 at_, .int .i64 od] 82)) = .ok (.tuple #[]) W ∧
      WB W b mb nw set sv ∧ IsMap encI W mb ((tdel id ts).map tv) ∧ W.cell? ⟨w.heap.size, 1, none⟩ = some (.int .i64 at_) ∧ sl.getD (at_ % 64).toNat [] = xs ∧ id ∈ xs ∧ sv.getD (at_ % 64).toNat undef = .slice (some ⟨g, 0, none⟩) xs.length cap ∧
      (∀ s, s < 64 → RI 3 W (sv.getD s undef) (sl.getD s [])) ∧ Kept F w W ∧ W.heap.size = w.heap.size + 1 ∧ g < w.heap.size := by
  obtain ⟨ob, hdel, hmap2⟩ := run_mdel (ty := 0) keyI Try.underlying77 Try.underlying3 (h.map.alloc (.cells #[.int .i64 id, .int .i64 at_, .int .i64 od] 82)) id #[77, 3] rfl
  have hb : b < w.heap.size := h.lt _ h.fb
  have hmb : mb < w.heap.size := h.lt _ h.fm
  have hne : mb ≠ b := h.map.ne_blk h.blk.2
  have k1 : Kept (fun _ => False) w (w.alloc (.cells #[.int .i64 id, .int .i64 at_, .int .i64 od] 82)) := (Kept.refl _ _).alloc _
  have k2 := Kept.mput_ (w.alloc (.cells #[.int .i64 id, .int .i64 at_, .int .i64 od] 82)) mb ob
  have hin : id ∈ sl.getD (at_ % 64).toNat [] := (ok.both _ (slot_lt _) id).2 ⟨_, tlook_some hl, rfl, rfl⟩
  have kk : Kept (fun k => k = mb) w (mput (w.alloc (.cells #[.int .i64 id, .int .i64 at_, .int .i64 od] 82)) mb ob) := (k1.mono (fun _ _ x => x.elim)).trans k2
  have rows : ∀ s, s < 64 → RI 3 (mput (w.alloc (.cells #[.int .i64 id, .int .i64 at_, .int .i64 od] 82)) mb ob) (sv.getD s undef) (sl.getD s []) :=
    fun s hs => (h.row s hs).kept kk (fun k hk e => (h.row s hs).ne_map h.map (by rw [hk, e]))
  have hr := h.row _ (slot_lt at_)
  rcases hr.form with ⟨_, hx⟩ | ⟨g, cap, cur, hv, hg, _⟩
  · rw [hx] at hin; cases hin
  · refine ⟨_, g, cap, _, hdel, h.blk.kept kk (fun e => hne e.symm), by rw [← mdel_tv]; exact hmap2, ?_, rfl, hin, hv, rows, kk.mono (fun k _ e => by rw [e]; exact h.fm), by rw [mput_size]; simp, (Array.getElem?_eq_some_iff.1 hg).1⟩
    have : (mput (w.alloc (.cells #[.int .i64 id, .int .i64 at_, .int .i64 od] 82)) mb ob).heap[w.heap.size]? = some (.cells #[.int .i64 id, .int .i64 at_, .int .i64 od] 82) := by
      rw [mput_far _ _ _ _ (by omega)]
      exact heap_alloc_new _ _
    rw [cell_of_row _ _ 1 _ _ _ this]
    rfl

/-- Behind the delete within the slot's row, and the store of the slot. -/
theorem cancel_end {w W W2 : World} {b mb g cap : Nat} {nw now set : Int} {ts : List Tim} {sl : List (List Int)} {F : Nat → Prop} {sv : List Value} (h : WheelAt w b nw set ts sl F mb sv) (ok : WOk now set ts sl) {id at_ : Int} {xs : List Int} (n q : Nat) (i : Nat)
    (hWB : WB W b mb nw set sv) (hWM : IsMap encI W mb ((tdel id ts).map tv)) (hxs : sl.getD (at_ % 64).toNat [] = xs) (hsv : sv.getD (at_ % 64).toNat undef = .slice (some ⟨g, 0, none⟩) xs.length cap)
    (rows : ∀ s, s < 64 → RI 3 W (sv.getD s undef) (sl.getD s [])) (hK : Kept F w W) (hi : i < xs.length) (he : xs.take i ++ xs.drop (i + 1) = xs.erase id)
    (hW2 : W2 = (((W.drewN n).drewN q).setCells g 0 (((xs.take xs.length).take i ++ (xs.take xs.length).drop (i + 1) ++ List.replicate (i + 1 - i) 0).map (Value.int .i64))).setCell ⟨b, 3 + (at_ % 64).toNat, none⟩ (.slice (some ⟨g, 0, none⟩) (xs.length - (i + 1 - i)) cap)) :
    ∃ sv', WheelAt W2 b nw set (tdel id ts) (sdel id at_ sl) F mb sv' ∧ Kept F w W2 := by
  have hS := slot_lt at_
  have hgF : F g := h.fs _ hS g (by rw [hsv]; rfl)
  have hgb : g ≠ b := by
    have := (rows _ hS).ne_blk hWB.2 (by decide)
    rw [hsv] at this
    intro e
    exact this (by rw [e]; rfl)
  have hgm : g ≠ mb := by
    have := (rows _ hS).ne_map hWM
    rw [hsv] at this
    intro e
    exact this (by rw [e]; rfl)
  have hmb : mb ≠ b := hWM.ne_blk hWB.2
  rw [show i + 1 - i = 1 by omega, List.take_length, show List.replicate 1 (0 : Int) = [0] from rfl, he] at hW2
  have hel : (xs.erase id).length + 1 = xs.length := by
    rw [← he]
    simp
    omega
  have hlen : xs.length - 1 = (xs.erase id).length := by omega
  rw [hlen] at hW2
  have k1 : Kept (fun k => k = g) W (((W.drewN n).drewN q).setCells g 0 (((xs.erase id) ++ [0]).map (Value.int .i64))) := (((Kept.refl _ _).drewN n).drewN q).trans (Kept.setCells_ g _ 0 _)
  have k2 : Kept (fun k => k = g ∨ k = b) W W2 := by
    rw [hW2]
    exact (k1.mono (fun _ _ e => .inl e)).setCell (fun _ => .inr rfl) _
  have k3 : Kept F w W2 := hK.trans (k2.mono (fun k _ e => by rcases e with rfl | rfl; exact hgF; exact h.fb))
  have hrow := rows _ hS
  rw [hsv, hxs] at hrow
  have hdel : RI 3 (((W.drewN n).drewN q).setCells g 0 (((xs.erase id) ++ [0]).map (Value.int .i64))) (.slice (some ⟨g, 0, none⟩) (xs.erase id).length cap) (xs.erase id) :=
    RI.del (hrow.kept (F := fun _ => False) (((Kept.refl _ _).drewN n).drewN q) (fun _ _ x => x)) hel
  have hdel2 : RI 3 W2 (.slice (some ⟨g, 0, none⟩) (xs.erase id).length cap) (xs.erase id) := by
    rw [hW2]
    exact hdel.kept (F := fun k => k = b) ((Kept.refl _ _).put _) (fun k hk e => hgb (by simp [Value.ownBlock] at hk; omega))
  have hsl : (at_ % 64).toNat < sv.length := by rw [hWB.1]; exact hS
  have hll : (at_ % 64).toNat < sl.length := by rw [ok.len]; exact hS
  have gsv : ∀ s v, (sv.set (at_ % 64).toNat v).getD s undef = if (at_ % 64).toNat = s then v else sv.getD s undef := by
    intro s v
    simp only [List.getD_eq_getElem?_getD, List.getElem?_set]
    by_cases e : (at_ % 64).toNat = s
    · subst e; simp [hsl]
    · simp [e]
  refine ⟨sv.set (at_ % 64).toNat (.slice (some ⟨g, 0, none⟩) (xs.erase id).length cap), ⟨?_, hWM.kept k2 (fun e => by rcases e with e | e; exact hgm e.symm; exact hmb e), fun s hs => ?_, fun s s' hs hs' hne k hk => ?_, h.fb, h.fm, fun s hs k hk => ?_, fun k hk => Nat.lt_of_lt_of_le (h.lt k hk) k3.size⟩, k3⟩
  · rw [hW2]
    exact (hWB.kept k1 (fun e => hgb e.symm)).setS _ hS _
  · rw [gsv]
    unfold sdel
    rw [getD_set _ _ _ _ hll]
    by_cases e : (at_ % 64).toNat = s
    · rw [if_pos e, if_pos e, hxs]
      exact hdel2
    · rw [if_neg e, if_neg e]
      refine (rows s hs).kept k2 (fun k hk x => ?_)
      rcases x with rfl | rfl
      · exact h.apart _ _ hS hs e k (by rw [hsv]; rfl) hk
      · exact (rows s hs).ne_blk hWB.2 (by decide) hk
  · rw [gsv] at hk ⊢
    have same : ∀ x, (Value.slice (some ⟨g, 0, none⟩) (xs.erase id).length cap).ownBlock = some x → (sv.getD (at_ % 64).toNat undef).ownBlock = some x := fun x hx => by rw [hsv]; exact hx
    by_cases e : (at_ % 64).toNat = s
    · rw [if_pos e] at hk
      rw [if_neg (fun e' => hne (e.symm.trans e'))]
      rw [← e] at hs hne
      exact h.apart _ _ hs hs' hne k (same k hk)
    · rw [if_neg e] at hk
      by_cases e' : (at_ % 64).toNat = s'
      · rw [if_pos e']
        intro hx
        rw [← e'] at hs' hne
        exact h.apart _ _ hs hs' hne k hk (same k hx)
      · rw [if_neg e']
        exact h.apart _ _ hs hs' hne k hk
  · rw [gsv] at hk
    by_cases e : (at_ % 64).toNat = s
    · rw [if_pos e] at hk
      have : g = k := by simpa [Value.ownBlock] using hk
      rw [← this]; exact hgF
    · rw [if_neg e] at hk
      exact h.fs s hs k hk

theorem cancel_mid {W W2 : World} {b mb g : Nat} {now set : Int} {sv : List Value} (hWB : WB W b mb now set sv) (hgb : g ≠ b) (n q : Nat) (vs : List Value) (hW2 : W2 = ((W.drewN n).drewN q).setCells g 0 vs) (s : Nat) (hs : s < 64) :
    W2.cell? ⟨b, 3 + s, none⟩ = some (sv.getD s undef) ∧ W2.frozen? ⟨b, 3 + s, none⟩ = false := by
  have k1 : Kept (fun k => k = g) W W2 := by rw [hW2]; exact (((Kept.refl _ _).drewN n).drewN q).trans (Kept.setCells_ g _ 0 _)
  have h := hWB.kept k1 (fun e => hgb e.symm)
  exact ⟨h.slot s hs, h.fz _⟩

set_option maxHeartbeats 1000000 in
set_option maxRecDepth 20000 in
theorem wheel_Cancel_some {w : World} {b mb : Nat} {nw now set : Int} {ts : List Tim} {sl : List (List Int)} {F : Nat → Prop} {sv : List Value} (h : WheelAt w b nw set ts sl F mb sv) (ok : WOk now set ts sl) (hN : now ≤ 1152921504606846976) (id at_ od : Int) (hl : tlook id ts = some (at_, od)) :
    Calls Try.prog 40 #[.pointer (some ⟨b, 0, none⟩), .int .i64 id] w fun e w' => e = .returned (.int .i64 0) ∧ ∃ sv', WheelAt w' b nw set (tdel id ts) (sdel id at_ sl) F mb sv' ∧ Kept F w w' := by
  have c67 := h.blk.c67
  have hb : b < w.heap.size := h.lt _ h.fb
  obtain ⟨W, g, cap, xs, hdel, hWB, hWM, ht1, hxs, hin, hsv, rows, hK, hsz, hgl⟩ := cancel_world h ok id at_ od hl
  have hrun := run_look keyI Try.underlying77 Try.underlying3 wheel_zero h.map id true
  rw [look_tv, hl] at hrun
  simp only [Option.map_some, Tim.val, encI, if_true, Option.getD_some, Option.isSome_some] at hrun
  obtain ⟨_, _, hat0, hat1, _, _⟩ := ok.timer _ (tlook_some hl)
  simp only at hat0 hat1
  have hat2 : 0 ≤ at_ := by have := ok.now0; omega
  have hat3 : at_ ≤ 2305843009213693952 := by omega
  have hslot := hWB.slot _ (slot_lt at_)
  rw [hsv] at hslot
  have hfz := hWB.fz (3 + (at_ % 64).toNat)
  obtain ⟨i, hidx, hil, hie⟩ := idxOf_mem hin
  have hrowx := rows _ (slot_lt at_)
  rw [hsv, hxs] at hrowx
  obtain ⟨cur, hg', hcl, hcm, hcs, _⟩ := hrowx.slice
  have hgb : g ≠ b := Blk.ne_ (t := 3) hg' hWB.2 (by decide)
  unfold maxLen at hcm
  have hcells : ∀ j, j < xs.length → W.cell? ⟨g, 0 + j, none⟩ = some (.int .i64 (xs.getD j 0)) := fun j hj => by rw [Nat.zero_add]; exact hrowx.cell rfl j hj
  have hfrz : ∀ j, j < xs.length → W.frozen? ⟨g, 0 + j, none⟩ = false := fun j _ => Blk.frozen (t := 3) hg' _
  have cI := fun n => Try.slices_Index_int g 0 xs.length cap xs id (W.drewN n) (Nat.le_refl _) (by omega) hcells
  rw [List.take_length, hidx] at cI
  have cD := fun n => Try.slices_Delete_int_cells g 0 xs.length cap i (i + 1) xs (W.drewN n) (Nat.le_refl _) hcl hcm (by omega) (by omega) hcells hfrz
  rw [show ((i + 1 : Nat) : Int) = (i : Int) + 1 from by omega] at cD
  have fin := fun (n q : Nat) (W2 : World) => cancel_end (W2 := W2) h ok n q i hWB hWM hxs hsv rows hK hil hie
  have hil2 : (i : Int) ≤ 9223372036854775806 := by omega
  have HF := Lib.hid fin
  have HI := Lib.hid cI
  have HSV := Lib.hid hsv
  have HD := Lib.hid cD
  clear hl hsv hxs hsz fin cI cD hidx hie hcells hfrz hg' hrowx rows ok hin hcs
  go_enter Try.func40, Try.ntmps40
  go_wp2_with (go_at_call 39; refine (wheel_none h.blk).mono ?_; rintro e w' ⟨rfl, rfl⟩)
  go_quiet (fail)
  go_wp2_with fail
  refine (HI.out nq).mono ?_
  rintro e w' ⟨rfl, rfl⟩
  go_wp2_with fail
  refine (HD.out nq).mono ?_
  rintro e W2 ⟨rfl, q, hW2⟩
  obtain ⟨hs2, hf2⟩ := cancel_mid hWB hgb nq q _ hW2 _ (slot_lt at_)
  have HW := Lib.hid hW2
  clear hW2
  rw [HSV.out] at hs2
  go_wp2_with fail
  go_ret
  exact ⟨rfl, HF.out nq q _ (by rw [← HW.out, show i + 1 - i = 1 from by omega])⟩

set_option maxHeartbeats 400000 in
set_option maxRecDepth 20000 in
theorem wheel_Cancel_none {w : World} {b mb : Nat} {now set : Int} {ts : List Tim} {sl : List (List Int)} {F : Nat → Prop} {sv : List Value} (h : WheelAt w b now set ts sl F mb sv) (id : Int) (hl : tlook id ts = none) :
    Calls Try.prog 40 #[.pointer (some ⟨b, 0, none⟩), .int .i64 id] w fun e w' => e = .returned (.int .i64 6) ∧ Kept (fun _ => False) w w' := by
  have c67 := h.blk.c67
  have hb : b < w.heap.size := h.lt _ h.fb
  have hrun := run_look keyI Try.underlying77 Try.underlying3 wheel_zero h.map id true
  rw [look_tv, hl] at hrun
  simp only [Option.map_none, encI, if_true, Option.getD_none, Option.isSome_none] at hrun
  clear hl
  go_enter Try.func40, Try.ntmps40
  go_wp2_with (go_at_call 39; refine (wheel_none h.blk).mono ?_; rintro e w' ⟨rfl, rfl⟩)
  go_ret
  exact ⟨rfl, (Kept.refl _ _).alloc _⟩

theorem WheelAt.kept {w w1 : World} {b mb : Nat} {now set : Int} {ts : List Tim} {sl : List (List Int)} {F G : Nat → Prop} {sv : List Value} (h : WheelAt w b now set ts sl F mb sv) (k : Kept G w w1) (hG : ∀ i, F i → ¬ G i) : WheelAt w1 b now set ts sl F mb sv :=
  ⟨h.blk.kept k (hG _ h.fb), h.map.kept k (hG _ h.fm), fun s hs => (h.row s hs).kept k (fun i hi => hG i (h.fs s hs i hi)), h.apart, h.fb, h.fm, h.fs, fun i hi => Nat.lt_of_lt_of_le (h.lt i hi) k.size⟩

/-- Cancel, whatever is there: the timer is gone. -/
theorem wheel_Cancel {w : World} {b mb : Nat} {nw now set : Int} {ts : List Tim} {sl : List (List Int)} {F : Nat → Prop} {sv : List Value} (h : WheelAt w b nw set ts sl F mb sv) (ok : WOk now set ts sl) (hN : now ≤ 1152921504606846976) (id : Int) :
    Calls Try.prog 40 #[.pointer (some ⟨b, 0, none⟩), .int .i64 id] w fun e w' => (∃ v, e = .returned v) ∧ ∃ sv' sl', WheelAt w' b nw set (tdel id ts) sl' F mb sv' ∧ WOk now set (tdel id ts) sl' ∧ Kept F w w' := by
  cases hl : tlook id ts with
  | none =>
    refine (wheel_Cancel_none h id hl).mono ?_
    rintro e w' ⟨rfl, hk⟩
    rw [tdel_none hl]
    exact ⟨⟨_, rfl⟩, sv, sl, h.kept hk (fun _ _ x => x), ok, hk.mono (fun _ _ x => x.elim)⟩
  | some p =>
    obtain ⟨at_, od⟩ := p
    refine (wheel_Cancel_some h ok hN id at_ od hl).mono ?_
    rintro e w' ⟨rfl, sv', h1, h2⟩
    exact ⟨⟨_, rfl⟩, sv', _, h1, ok.del hl, h2⟩
end Go.Proofs.Ytchgieogdinglaa
