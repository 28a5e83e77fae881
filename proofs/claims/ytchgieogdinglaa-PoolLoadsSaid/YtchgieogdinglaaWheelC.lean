/- wheel.Set. -/
import Derived.Test.YtchgieogdinglaaWheelB
import Derived.Test.YtchgieogdinglaaSerT
import Derived.Test.YtchgieogdinglaaPush
set_option linter.unusedSimpArgs false
namespace Go.Proofs.Ytchgieogdinglaa
open Go.RowKit
open Ser

theorem tlook_tdel {id : Int} {ts : List Tim} (hn : (ids ts).Nodup) : tlook id (tdel id ts) = none :=
  tlook_none.2 fun _ ht => ((mem_tdel_iff hn).1 ht).2

theorem look_agg (id : Int) (ts : List Tim) : ∃ x y z, (look id (ts.map tv)).getD (.agg #[.int .i64 0, .int .i64 0, .int .i64 0]) = .agg #[.int .i64 x, .int .i64 y, .int .i64 z] := by
  rw [look_tv]
  cases tlook id ts with
  | none => exact ⟨0, 0, 0, rfl⟩
  | some p => exact ⟨id, p.1, p.2, rfl⟩

theorem nodup_bound : ∀ (n : Nat) (l : List Int), l.Nodup → (∀ x ∈ l, 0 ≤ x ∧ x < n) → l.length ≤ n
  | 0, l, _, h => by
    cases l with
    | nil => exact Nat.le_refl _
    | cons x l => have := h x List.mem_cons_self; omega
  | n + 1, l, hn, h => by
    by_cases hm : (n : Int) ∈ l
    · have h1 := nodup_bound n (l.erase n) (hn.erase _) (fun x hx => by
        have := (hn.mem_erase_iff).1 hx
        have := h x this.2
        omega)
      rw [List.length_erase_of_mem hm] at h1
      omega
    · have := nodup_bound n l hn (fun x hx => by
        have h1 := h x hx
        have : x ≠ n := fun e => hm (e ▸ hx)
        omega)
      omega
theorem WOk.short {now set : Int} {ts : List Tim} {sl : List (List Int)} (h : WOk now set ts sl) {s : Nat} (hs : s < 64) : (sl.getD s []).length ≤ 1000 :=
  nodup_bound 1000 _ (h.rows s hs) fun x hx => by
    obtain ⟨t, ht, rfl, _⟩ := (h.both s hs x).1 hx
    have := h.timer t ht
    omega
theorem WOk.few {now set : Int} {ts : List Tim} {sl : List (List Int)} (h : WOk now set ts sl) : ts.length ≤ 1000 := by
  have := nodup_bound 1000 _ h.nodup fun x hx => by
    obtain ⟨t, ht, rfl⟩ := List.mem_map.1 hx
    have := h.timer t ht
    omega
  simpa [ids] using this

/-- Behind the append to the slot's row, and the store of the slot. -/
theorem WheelAt.push {w w' : World} {b mb : Nat} {now set : Int} {ts : List Tim} {sl : List (List Int)} {F : Nat → Prop} {sv : List Value} (h : WheelAt w b now set ts sl F mb sv) (hsl : sl.length = 64) {s : Nat} (hs : s < 64) (id : Int) {v' : Value}
    (p : Pushed w 3 1 (sv.getD s undef) ((sl.getD s []).length + 1) ((sl.getD s []).map (Value.int .i64) ++ [.int .i64 id]) v' w') :
    WheelAt (w'.setCell ⟨b, 3 + s, none⟩ v') b now set ts (sl.set s (sl.getD s [] ++ [id])) (fun k => F k ∨ v'.ownBlock = some k) mb (sv.set s v') ∧ Grew F w (fun k => F k ∨ v'.ownBlock = some k) (w'.setCell ⟨b, 3 + s, none⟩ v') := by
  have hbv : (sv.getD s undef).ownBlock ≠ some b := (h.row s hs).ne_blk h.blk.2 (by decide)
  have hmv : (sv.getD s undef).ownBlock ≠ some mb := (h.row s hs).ne_map h.map
  have hbl : b < w.heap.size := h.lt _ h.fb
  have hml : mb < w.heap.size := h.lt _ h.fm
  have k1 : Kept (fun k => (sv.getD s undef).ownBlock = some k) w w' := (Kept.refl _ _).grown p.grown (fun k hk _ => hk)
  have kF : Kept F w (w'.setCell ⟨b, 3 + s, none⟩ v') := (k1.mono (fun k _ e => h.fs s hs k e)).setCell (fun _ => h.fb) _
  have hvb : v'.ownBlock ≠ some b := fun e => by
    rcases p.where_ b e with x | x
    · exact hbv x
    · omega
  have hlen : s < sv.length := by rw [h.blk.1]; exact hs
  have hll : s < sl.length := by rw [hsl]; exact hs
  have gsv : ∀ s' v, (sv.set s v).getD s' undef = if s = s' then v else sv.getD s' undef := by
    intro s' v
    simp only [List.getD_eq_getElem?_getD, List.getElem?_set]
    by_cases e : s = s'
    · subst e; simp [hlen]
    · simp [e]
  have hrow : RI 3 w' v' (sl.getD s [] ++ [id]) := by
    have := p.own
    unfold RI
    rw [List.length_append, List.map_append]
    exact this
  have hmb : mb ≠ b := h.map.ne_blk h.blk.2
  refine ⟨⟨(h.blk.kept k1 hbv).setS s hs v', ?_, fun s' hs' => ?_, fun s1 s2 hs1 hs2 hne k hk => ?_, .inl h.fb, .inl h.fm, fun s' hs' k hk => ?_, fun k hk => ?_⟩, kF, fun k hk => ?_⟩
  · exact (h.map.kept k1 hmv).kept (F := fun k => k = b) ((Kept.refl _ _).put _) hmb
  · rw [gsv, getD_set _ _ _ _ hll]
    by_cases e : s = s'
    · rw [if_pos e, if_pos e]
      exact hrow.kept (F := fun k => k = b) ((Kept.refl _ _).put _) (fun k hk e => hvb (by rw [hk, e]))
    · rw [if_neg e, if_neg e]
      refine ((h.row s' hs').kept k1 (fun k hk x => h.apart s s' hs hs' e k x hk)).kept (F := fun k => k = b) ((Kept.refl _ _).put _) (fun k hk e => (h.row s' hs').ne_blk h.blk.2 (by decide) (by rw [hk, e]))
  · rw [gsv] at hk ⊢
    by_cases e1 : s = s1
    · rw [if_pos e1] at hk
      rw [if_neg (fun e2 => hne (e1.symm.trans e2))]
      rcases p.where_ k hk with x | x
      · exact h.apart s s2 hs hs2 (fun e2 => hne (e1.symm.trans e2)) k x
      · intro y
        have := (h.row s2 hs2).lt k y
        omega
    · rw [if_neg e1] at hk
      by_cases e2 : s = s2
      · rw [if_pos e2]
        intro y
        rcases p.where_ k y with x | x
        · exact h.apart s1 s hs1 hs (fun e => e1 e.symm) k hk x
        · have := (h.row s1 hs1).lt k hk
          omega
      · rw [if_neg e2]
        exact h.apart s1 s2 hs1 hs2 hne k hk
  · rw [gsv] at hk
    by_cases e : s = s'
    · rw [if_pos e] at hk
      exact .inr hk
    · rw [if_neg e] at hk
      exact .inl (h.fs s' hs' k hk)
  · have hsz : (w'.setCell ⟨b, 3 + s, none⟩ v').heap.size = w'.heap.size := by simp [World.setCell]
    rw [hsz]
    rcases hk with hk | hk
    · exact Nat.lt_of_lt_of_le (h.lt k hk) k1.size
    · exact hrow.lt k hk
  · rcases hk with hk | hk
    · exact .inl hk
    · rcases p.where_ k hk with x | x
      · exact .inl (h.fs s hs k x)
      · have hsz : (w'.setCell ⟨b, 3 + s, none⟩ v').heap.size = w'.heap.size := by simp [World.setCell]
        exact .inr ⟨x, by rw [hsz]; exact hrow.lt k hk⟩

/-- The timer's store in the map, and the count. -/
theorem WheelAt.timed {w : World} {b mb : Nat} {now set : Int} {ts : List Tim} {sl : List (List Int)} {F : Nat → Prop} {sv : List Value} (h : WheelAt w b now set ts sl F mb sv) {id at_ od : Int} (hl : tlook id ts = none) (v : Int) :
    ∃ o, (Instr.mapUpdate 77 (.map (some mb)) (.int .i64 id) (.agg #[.int .i64 id, .int .i64 at_, .int .i64 od])).run Try.prog ((w.setCell ⟨b, 2, none⟩ (.int .i64 v)).drew) = .ok () (mput ((w.setCell ⟨b, 2, none⟩ (.int .i64 v)).drew) mb o) ∧
      WheelAt (mput ((w.setCell ⟨b, 2, none⟩ (.int .i64 v)).drew) mb o) b now v (ts ++ [(id, at_, od)]) sl F mb sv ∧ Kept (fun k => k = b ∨ k = mb) w (mput ((w.setCell ⟨b, 2, none⟩ (.int .i64 v)).drew) mb o) := by
  have hmb : mb ≠ b := h.map.ne_blk h.blk.2
  have k1 : Kept (fun k => k = b) w ((w.setCell ⟨b, 2, none⟩ (.int .i64 v)).drew) := ((Kept.refl _ _).put _).drew
  obtain ⟨o, hr, hm⟩ := run_mset (P := Try.prog) keyI Try.underlying77 Try.underlying3 (h.map.kept k1 hmb) id (Tim.val (id, at_, od))
  have k2 := Kept.mput_ ((w.setCell ⟨b, 2, none⟩ (.int .i64 v)).drew) mb o
  have kk : Kept (fun k => k = b ∨ k = mb) w (mput ((w.setCell ⟨b, 2, none⟩ (.int .i64 v)).drew) mb o) := (k1.mono (fun _ _ e => .inl e)).trans (k2.mono (fun _ _ e => .inr e))
  refine ⟨o, hr, ⟨((h.blk.set2 v).kept (F := fun _ => False) (Kept.refl _ _).drew (fun x => x)).kept k2 (fun (e : b = mb) => hmb e.symm), by rw [mset_tv id at_ od ts hl] at hm; exact hm, fun s hs => (h.row s hs).kept kk (fun k hk e => ?_), h.apart, h.fb, h.fm, h.fs, fun k hk => Nat.lt_of_lt_of_le (h.lt k hk) kk.size⟩, kk⟩
  rcases e with rfl | rfl
  · exact (h.row s hs).ne_blk h.blk.2 (by decide) hk
  · exact (h.row s hs).ne_map h.map hk

set_option maxHeartbeats 1000000 in
set_option maxRecDepth 20000 in
theorem wheel_Set {w : World} {b mb : Nat} {now set : Int} {ts : List Tim} {sl : List (List Int)} {F : Nat → Prop} {sv : List Value} (h : WheelAt w b now set ts sl F mb sv) (ok : WOk now set ts sl)
    (hN : now ≤ 1152921504606846976) (hS : set ≤ 1152921504606846976) (hL : (((ts.length : Nat) : Int) == 1024) = false) (id after : Int) (i0 : 0 ≤ id) (i1 : id < 1000) (a0 : 1 ≤ after) (a1 : after ≤ 1073741824) :
    Calls Try.prog 15 #[.pointer (some ⟨b, 0, none⟩), .int .i64 id, .int .i64 after] w fun e w' => e = .returned (.int .i64 0) ∧ ∃ F' sv' sl', WheelAt w' b now (set + 1) (tdel id ts ++ [(id, now + after, set)]) sl' F' mb sv' ∧
      WOk now (set + 1) (tdel id ts ++ [(id, now + after, set)]) sl' ∧ Grew F w F' w' := by
  have c67 := h.blk.c67
  have n0 := ok.now0
  have s0 := ok.set0
  have hrun := run_look keyI Try.underlying77 Try.underlying3 wheel_zero h.map id true
  obtain ⟨x, y, z, hxyz⟩ := look_agg id ts
  rw [hxyz] at hrun
  have hlen := run_mlen (P := Try.prog) (ty := 3) Try.underlying77 (h.map.alloc (.cells #[.int .i64 x, .int .i64 y, .int .i64 z] 82)) #[77] rfl
  simp only [encI, if_true, List.length_map] at hrun hlen
  generalize (look id (ts.map tv)).isSome = ag at hrun
  have hb : b < w.heap.size := h.lt _ h.fb
  have HR := Lib.hid h
  have HK := Lib.hid ok
  clear ok
  clear hxyz
  go_enter Try.func15, Try.ntmps15
  go_wp2_with (go_at_call 39; refine (wheel_none HR.out.blk).mono ?_; rintro e w' ⟨rfl, rfl⟩)
  all_goals
    refine (wheel_Cancel (HR.out.kept (G := fun _ => False) ((Kept.refl _ _).alloc _) (fun _ _ x => x)) HK.out hN id).mono ?_
    rintro e w1 ⟨⟨v, rfl⟩, sv1, sl1, h1, ok1, hk1⟩
    have H1 := Lib.hid h1
    have O1 := Lib.hid ok1
    have c1 := h1.blk.c1
    have c2 := h1.blk.c2
    have c67' := h1.blk.c67
    have f2 := h1.blk.fz 2
    have hb1 : b < w1.heap.size := h1.lt _ h1.fb
    clear hrun hlen h1 ok1
    go_wp2_with fail
    (refine wp_region_ser [0,0,0,0,1,0,0,0,0,0,1,0,2,3] [0,1,2,3,4,5,6,7,8,9,10,11,12,13] (by kernel_rfl) (by kernel_rfl) ?_; (repeat (first | (refine wpSer_skip rfl rfl ?_) | (refine wpSer_calmE rfl rfl rfl rfl rfl rfl (by first | exact trivial | assumption) ?_; apply Exists.intro; refine ⟨?_, ?_⟩; focus (intro _ _ _ hK; go_step; first | exact hK | (rw [if_pos (by omega)]; go_step; exact hK) | (rw [if_neg (by omega)]; go_step; exact hK))) | (refine wpSer_opI rfl rfl rfl ?_; intro _ hK; go_step; (try first | (rw [if_pos (by omega)]; go_step) | (rw [if_neg (by omega)]; go_step)); refine hK _ _ (by first | exact trivial | assumption) ?_; clear hK))); refine wpSer_nil ?_)
    obtain ⟨at_, hat⟩ : ∃ at_, at_ = now + after := ⟨_, rfl⟩
    have kW : Kept (fun _ => False) w1 (w1.alloc (.cells #[.int .i64 id, .int .i64 at_, .int .i64 set] 82)).drew := ((Kept.refl _ _).alloc _).drew
    have bW : Blk (w1.alloc (.cells #[.int .i64 id, .int .i64 at_, .int .i64 set] 82)).drew w1.heap.size 82 #[.int .i64 id, .int .i64 at_, .int .i64 set] := (Blk.new _ _ _).drew
    rw [← hat]
    have at0 : 0 ≤ at_ := by omega
    have at9 : at_ ≤ 2305843009213693952 := by omega
    have HAT := Lib.hid hat
    clear hat
    generalize (w1.alloc (.cells #[.int .i64 id, .int .i64 at_, .int .i64 set] 82)).drew = w2 at kW bW ⊢
    have h2 := H1.out.kept kW (fun _ _ x => x)
    obtain ⟨o, hset, h4, k4⟩ := h2.timed (at_ := at_) (od := set) (tlook_tdel HK.out.nodup) (set + 1)
    have c2' := h2.blk.c2
    have f2' := h2.blk.fz 2
    have c67'' := h2.blk.c67
    have t0 : w2.cell? ⟨w1.heap.size, 0, none⟩ = some (.int .i64 id) := (Blk.cell bW 0).trans rfl
    have t1 : w2.cell? ⟨w1.heap.size, 1, none⟩ = some (.int .i64 at_) := (Blk.cell bW 1).trans rfl
    have t2 : w2.cell? ⟨w1.heap.size, 2, none⟩ = some (.int .i64 set) := (Blk.cell bW 2).trans rfl
    have k5 := bW.kept k4 (fun e => by rcases e with e | e; omega; have := H1.out.lt _ H1.out.fm; omega)
    have H4 := Lib.hid h4
    have K4 := Lib.hid k4
    have K5 := Lib.hid k5
    clear h4 k4 h2 c67 c67' c1 c2 f2 k5 bW
    generalize hW4 : mput (w2.setCell ⟨b, 2, none⟩ (.int .i64 (set + 1))).drew mb o = w4 at hset H4 K4 K5
    go_wp2_with fail
    (refine wp_region_ser [0,0,0,1,0,1,3] [0,1,2,3,4,5,6] (by kernel_rfl) (by kernel_rfl) ?_; (repeat (first | (refine wpSer_skip rfl rfl ?_) | (refine wpSer_calmE rfl rfl rfl rfl rfl rfl (by first | exact trivial | assumption) ?_; apply Exists.intro; refine ⟨?_, ?_⟩; focus (intro _ _ _ hK; go_step; first | exact hK | (rw [if_pos (by omega)]; go_step; exact hK) | (rw [if_neg (by omega)]; go_step; exact hK))) | (refine wpSer_opI rfl rfl rfl ?_; intro _ hK; go_step; (try first | (rw [if_pos (by omega)]; go_step) | (rw [if_neg (by omega)]; go_step)); refine hK _ _ (by first | exact trivial | assumption) ?_; clear hK))); refine wpSer_nil ?_)
    clear hset c2' f2' c67'' t0 t1 t2
    have hslt := slot_lt at_
    have hsl : w4.drew.cell? ⟨b, 3 + (at_ % 64).toNat, none⟩ = some (sv1.getD (at_ % 64).toNat undef) := H4.out.blk.slot _ hslt
    have hfz : w4.frozen? ⟨b, 3 + (at_ % 64).toNat, none⟩ = false := H4.out.blk.fz _
    have t1 : w4.drew.cell? ⟨w1.heap.size, 1, none⟩ = some (.int .i64 at_) := (Blk.cell K5.out 1).trans rfl
    have hb4 : b < w4.heap.size := H4.out.lt _ H4.out.fb
    have B5 := Lib.hid ((K5.out.alloc (.cells #[.int .i64 id] 3)).drew)
    have t15 : (w4.alloc (.cells #[.int .i64 id] 3)).drew.cell? ⟨w1.heap.size, 1, none⟩ = some (.int .i64 at_) := (Blk.cell B5.out 1).trans rfl
    have k45 : Kept (fun _ => False) w4 (w4.alloc (.cells #[.int .i64 id] 3)).drew := ((Kept.refl _ _).alloc _).drew
    have H5 := Lib.hid (H4.out.kept k45 (fun _ _ x => x))
    have N5 : Hid ((w4.alloc (.cells #[.int .i64 id] 3)).drew.cell? ((⟨w4.heap.size, 0, none⟩ : Addr).add 0) = some (.int .i64 id)) := Lib.hid ((Blk.cell (Blk.new w4 3 #[.int .i64 id]) 0).trans rfl)
    have hrl := WOk.short O1.out hslt
    have K0 := Lib.hid (((((Kept.refl F w).alloc _).trans hk1).trans (kW.mono (fun _ _ x => x.elim))).trans (K4.out.mono (fun k _ e => by rcases e with rfl | rfl; exact H4.out.fb; exact H4.out.fm)) |>.trans (k45.mono (fun _ _ x => x.elim)))
    go_wp2_with fail
    refine wp_region_serI (fun W => W.cell? ⟨w1.heap.size, 1, none⟩ = some (.int .i64 at_)) [0,0,0,0,0,0,0,0,0,0,0,1,0,2,3,0,0,0,3] [0,1,2,3,4,5,6,7,8,9,10,11,12,13,14,15,16,17,18] (by kernel_rfl) (by kernel_rfl) t1 ?_
    repeat (first | (refine wpSer_skip rfl rfl ?_) | (refine wpSer_calmE rfl rfl rfl rfl rfl rfl (by first | exact trivial | assumption) ?_; apply Exists.intro; refine ⟨?_, ?_⟩; focus (intro _ _ _ hK; go_step; first | exact hK | (rw [if_pos (by omega)]; go_step; exact hK) | (rw [if_neg (by omega)]; go_step; exact hK))))
    (refine wpSer_opI rfl rfl rfl ?_; intro _ hK; go_step; (try first | (rw [if_pos (by omega)]; go_step) | (rw [if_neg (by omega)]; go_step)); refine hK _ _ (by first | exact trivial | assumption) ?_; clear hK)
    repeat (first | (refine wpSer_skip rfl rfl ?_) | (refine wpSer_calmE rfl rfl rfl rfl rfl rfl (by first | exact trivial | assumption) ?_; apply Exists.intro; refine ⟨?_, ?_⟩; focus (intro _ _ _ hK; go_step; first | exact hK | (rw [if_pos (by omega)]; go_step; exact hK) | (rw [if_neg (by omega)]; go_step; exact hK))))
    (refine wpSer_opI rfl rfl rfl ?_; intro _ hK; go_step; (try first | (rw [if_pos (by omega)]; go_step) | (rw [if_neg (by omega)]; go_step)); refine (fun (h : _ ∧ _) => hK _ _ h.1 h.2) (inv_then ?_ (fun _ => ?_)); all_goals clear hK)
    · exact t15
    obtain ⟨i0', hi, hz0, hz1, hz2⟩ := info_parts (P := Try.prog) (e := 3) (z := .int .i64 0) (size := 1) (bytes := 8) (by kernel_rfl)
    refine wpSer_opI rfl rfl rfl ?_
    intro K hK
    refine wp_push _ (.tmp 82) (.tmp 84) 71 rfl 3 i0' (.int .i64 0) 1 8 Try.underlying71 hi hz0 hz1 hz2 rfl (by decide) (sv1.getD (at_ % 64).toNat undef) (sl1.getD (at_ % 64).toNat []).length ((sl1.getD (at_ % 64).toNat []).map (Value.int .i64)) rfl (H5.out.row _ hslt)
      ⟨w4.heap.size, 0, none⟩ 1 1 [.int .i64 id] rfl rfl ?_ ?_ ?_ ?_ ?_
    · intro j u hj
      obtain rfl : j = 0 := by
        have := (List.getElem?_eq_some_iff.1 hj).1
        simpa using this
      have : u = .int .i64 id := by simpa [eq_comm] using hj
      subst this
      exact N5.out
    · intro u hu
      simp only [List.mem_singleton] at hu
      subst hu
      rfl
    · unfold maxLen; omega
    · omega
    intro v' w6 hp
    obtain ⟨ao, n', c', rfl⟩ := hp.slice
    have gk : Kept (fun k => (sv1.getD (at_ % 64).toNat undef).ownBlock = some k) (w4.alloc (.cells #[.int .i64 id] 3)).drew w6 := (Kept.refl _ _).grown hp.grown (fun k hk _ => hk)
    have T6 := Lib.hid (B5.out.kept gk ((H5.out.row _ hslt).ne_blk B5.out (by decide)))
    have W6 := Lib.hid (H5.out.blk.kept gk ((H5.out.row _ hslt).ne_blk H5.out.blk.2 (by decide)))
    have hs6 : w6.cell? ⟨b, 3 + (at_ % 64).toNat, none⟩ = some (sv1.getD (at_ % 64).toNat undef) := W6.out.slot _ hslt
    have hf6 : w6.frozen? ⟨b, 3 + (at_ % 64).toNat, none⟩ = false := W6.out.fz _
    have HP := Lib.hid hp
    have hb6 : w1.heap.size ≠ b := by omega
    clear hp gk hsl hfz
    refine hK _ _ ((Blk.cell T6.out 1).trans rfl) ?_
    clear hK
    have t16 : w6.cell? ⟨w1.heap.size, 1, none⟩ = some (.int .i64 at_) := (Blk.cell T6.out 1).trans rfl
    repeat (first | (refine wpSer_skip rfl rfl ?_) | (refine wpSer_calmE rfl rfl rfl rfl rfl rfl (by first | exact trivial | assumption) ?_; apply Exists.intro; refine ⟨?_, ?_⟩; focus (intro _ _ _ hK; go_step; first | exact hK | (rw [if_pos (by omega)]; go_step; exact hK) | (rw [if_neg (by omega)]; go_step; exact hK))))
    (refine wpSer_opI rfl rfl rfl ?_; intro _ hK; go_step; (try first | (rw [if_pos (by omega)]; go_step) | (rw [if_neg (by omega)]; go_step)); refine (fun (h : _ ∧ _) => hK _ _ h.1 h.2) (inv_then ?_ (fun _ => ?_)); all_goals clear hK)
    · exact (Blk.cell (T6.out.far hb6 _) 1).trans rfl
    (refine wpSer_nil ?_)
    clear hs6 hf6 t15 t16
    go_wp2_with fail
    go_ret
    obtain ⟨gw, gg⟩ := H5.out.push O1.out.len hslt id HP.out
    have hadd := O1.out.add (tlook_tdel HK.out.nodup) i0 i1 a0 a1
    rw [← HAT.out] at hadd ⊢
    exact ⟨rfl, _, _, _, gw, hadd, ⟨K0.out.trans gg.kept, fun k hk => (gg.home k hk).imp (fun x => x) (fun x => ⟨Nat.le_trans K0.out.size x.1, x.2⟩)⟩⟩
end Go.Proofs.Ytchgieogdinglaa
