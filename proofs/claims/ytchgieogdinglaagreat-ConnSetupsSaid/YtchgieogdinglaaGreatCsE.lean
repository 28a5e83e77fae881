/- ConnSetups: a frame of settings: its bytes. -/
import Derived.Test.YtchgieogdinglaaGreatCsD
set_option linter.unusedSimpArgs false
set_option linter.unusedVariables false
namespace Go.Proofs.YtchgieogdinglaaGreat
open Go.RowKit
open Ser

def PutR (w : World) (n : Nat) (b i : Value) (wr : World) : Prop := ∃ (k : Nat) (cs : List Value), k ≤ n ∧ i = .int .i64 k ∧ RY wr b (6 * k) cs ∧ (∀ q, b.ownBlock = some q → w.heap.size ≤ q) ∧ Kept (fun _ => False) w wr
/-- Bytes that were made, as a row. -/
def RowMade (w : World) (n : Nat) (e : Ending) (w' : World) : Prop := ∃ v cs, e = .returned v ∧ RY w' v n cs ∧ (∀ q, v.ownBlock = some q → w.heap.size ≤ q) ∧ Kept (fun _ => False) w w'

set_option maxHeartbeats 2000000 in
set_option maxRecDepth 20000 in
theorem frame_putSets {w : World} {v : Value} {L : List (Int × Int)} (h : SS w v L) (hn : L.length ≤ 1000) (hid : ∀ x ∈ L, 0 ≤ x.1 ∧ x.1 < 65536) :
    Calls Tryz.prog 89 #[.agg #[.int .i64 4, .int .i64 0, .int .i64 0, .slice none 0 0, .int .i64 0, .int .u32 0, .int .i64 0, .int .i64 0, .int .i64 0, .bool false, .int .i64 0, v]] w (RowMade w (6 * L.length)) := by
  obtain ⟨ao, cap, rfl, hao⟩ := RS.form h
  have kA : Kept (fun _ => False) w (w.alloc (.cells #[.int .i64 4, .int .i64 0, .int .i64 0, .slice none 0 0, .int .i64 0, .int .u32 0, .int .i64 0, .int .i64 0, .int .i64 0, .bool false, .int .i64 0, .slice ao L.length cap] 116)) := (Kept.refl _ _).alloc _
  have HS := Lib.hid h
  have HAO := Lib.hid hao
  have HID := Lib.hid hid
  have HT := Lib.hid (show PutR (w.alloc (.cells #[.int .i64 4, .int .i64 0, .int .i64 0, .slice none 0 0, .int .i64 0, .int .u32 0, .int .i64 0, .int .i64 0, .int .i64 0, .bool false, .int .i64 0, .slice ao L.length cap] 116)) L.length (.slice none 0 0) (.int .i64 0) _ from ⟨0, [], Nat.zero_le _, rfl, RY.nil _, by simp [Value.ownBlock], Kept.refl _ _⟩)
  have HKA := Lib.hid kA
  clear h hao hid kA
  go_enter Tryz.func89, Tryz.ntmps89
  go_wp2_with fail
  go_loopw [3, 11] (PutR (w.alloc (.cells #[.int .i64 4, .int .i64 0, .int .i64 0, .slice none 0 0, .int .i64 0, .int .u32 0, .int .i64 0, .int .i64 0, .int .i64 0, .bool false, .int .i64 0, .slice ao L.length cap] 116)) L.length) (fun _ i _ => L.length - (intOf i).toNat)
  case atStart => exact HT.out
  obtain ⟨k, cs, hk, rfl, hy, ho, hkk⟩ := hrel
  have HKK := Lib.hid hkk
  have HY := Lib.hid hy
  have HO := Lib.hid ho
  clear hkk hy ho
  rcases Nat.lt_or_ge k L.length with hlt | hge
  · obtain ⟨g, rfl⟩ := HAO.out (by omega)
    obtain ⟨x, hx⟩ : ∃ x, L[k]? = some x := ⟨_, List.getElem?_eq_getElem hlt⟩
    obtain ⟨c0, c1⟩ := SS.cells ((RS.kept (RS.kept HS.out HKA.out (fun _ _ x => x)) HKK.out (fun _ _ x => x)) : SS wr _ L) hx
    have hr := HID.out x (List.mem_of_getElem? hx)
    obtain ⟨x1, x2⟩ := x
    have hp := field_Put16 x1 (wr.alloc (.cells #[.int .i64 x1, .int .u32 x2] 110)) hr.1 hr.2
    have bS := Blk.new wr 110 #[.int .i64 x1, .int .u32 x2]
    have HP := Lib.hid hp
    have HBS := Lib.hid bS
    clear hx hr hp bS
    go_wp2_with fail
    refine HP.out.mono ?_
    rintro e w2 ⟨b2, o2, cs2, rfl, hl2, hb2, hc2, hn2, k2⟩
    have i2 : w2.drew.cell? ⟨wr.heap.size, 1, none⟩ = some (.int .u32 x2) := (Blk.cell ((HBS.out.kept k2 (fun x => x)).drew) 1).trans rfl
    have HC2 := Lib.hid hc2
    have HB2 := Lib.hid hb2
    have HL2 := Lib.hid hl2
    have HK2 := Lib.hid k2
    clear hc2 hb2 hl2 k2
    go_wp2_with fail
    refine wp_region_serI (fun V => V.cell? ⟨wr.heap.size, 1, none⟩ = some (.int .u32 x2)) [0,0,3,0,0,3,3,0] [0,1,2,3,4,5,6,7] (by kernel_rfl) (by kernel_rfl) i2 ?_
    repeat (first | (refine wpSer_skip rfl rfl ?_) | (refine wpSer_calmE rfl rfl rfl rfl rfl rfl (by first | exact trivial | assumption) ?_; apply Exists.intro; refine ⟨?_, ?_⟩; focus (intro _ _ _ hK; go_step; first | exact hK | (rw [if_pos (by omega)]; go_step; exact hK) | (rw [if_neg (by omega)]; go_step; exact hK))))
    have kW : Kept (fun _ => False) wr w2.drew := (((Kept.refl _ _).alloc _).trans HK2.out).drew
    refine wpSer_opI rfl rfl rfl ?_
    intro _ hK
    refine wp_pushB _ _ _ rfl _ (6 * k) cs rfl (HY.out.kept kW (fun _ _ x => x)) b2 o2 2 2 cs2 rfl HL2.out HB2.out (fun j u hu => HC2.out j u hu) (by omega) ?_
    intro v3 w3 y3 q3 o3
    have b3 := (((HBS.out.kept HK2.out (fun x => x)).drew).kept q3 (fun e => by have := HY.out.lt _ e; omega))
    have i3 : w3.cell? ⟨wr.heap.size, 1, none⟩ = some (.int .u32 x2) := (Blk.cell b3 1).trans rfl
    have Y3 := Lib.hid y3
    have Q3 := Lib.hid q3
    have O3 := Lib.hid o3
    clear y3 q3 o3 b3
    refine hK _ _ i3 ?_
    clear hK i2
    repeat (first | (refine wpSer_skip rfl rfl ?_) | (refine wpSer_calmE rfl rfl rfl rfl rfl rfl (by first | exact trivial | assumption) ?_; apply Exists.intro; refine ⟨?_, ?_⟩; focus (intro _ _ _ hK; go_step; first | exact hK | (rw [if_pos (by omega)]; go_step; exact hK) | (rw [if_neg (by omega)]; go_step; exact hK))))
    refine wpSer_opI rfl rfl rfl ?_
    intro _ hK
    go_step
    refine (field_Put32 x2 _).mono ?_
    rintro e w4 ⟨b4, o4, cs4, rfl, hl4, hb4, hc4, hn4, k4⟩
    have i4 : w4.cell? ⟨wr.heap.size, 1, none⟩ = some (.int .u32 x2) := (Kept.cell_ k4 (cell_lt_ i3)).trans i3
    have HC4 := Lib.hid hc4
    have HB4 := Lib.hid hb4
    have HL4 := Lib.hid hl4
    have HK4 := Lib.hid k4
    clear hc4 hb4 hl4 k4 i3
    refine hK _ _ i4 ?_
    clear hK
    repeat (first | (refine wpSer_skip rfl rfl ?_) | (refine wpSer_calmE rfl rfl rfl rfl rfl rfl (by first | exact trivial | assumption) ?_; apply Exists.intro; refine ⟨?_, ?_⟩; focus (intro _ _ _ hK; go_step; first | exact hK | (rw [if_pos (by omega)]; go_step; exact hK) | (rw [if_neg (by omega)]; go_step; exact hK))))
    refine wpSer_opI rfl rfl rfl ?_
    intro _ hK
    refine wp_pushB _ _ _ rfl _ (6 * k + 2) (cs ++ cs2) rfl (Y3.out.kept HK4.out (fun _ _ x => x)) b4 o4 4 4 cs4 rfl HL4.out HB4.out (fun j u hu => HC4.out j u hu) (by omega) ?_
    intro v5 w5 y5 q5 o5
    have i5 : w5.cell? ⟨wr.heap.size, 1, none⟩ = some (.int .u32 x2) := by
      have hlt2 : wr.heap.size < w2.heap.size := Blk.lt (HBS.out.kept HK2.out (fun x => x))
      have b3 := (((HBS.out.kept HK2.out (fun x => x)).drew).kept Q3.out (fun e => by have := HY.out.lt _ e; omega))
      refine (Blk.cell ((b3.kept HK4.out (fun x => x)).kept q5 (fun e => ?_)) 1).trans rfl
      rcases O3.out _ e with h | h
      · have := HY.out.lt _ h; omega
      · have h' : w2.heap.size ≤ wr.heap.size := h
        omega
    have Y5 := Lib.hid y5
    have Q5 := Lib.hid q5
    have O5 := Lib.hid o5
    clear y5 q5 o5
    refine hK _ _ i5 ?_
    clear hK i4
    repeat (first | (refine wpSer_skip rfl rfl ?_) | (refine wpSer_calmE rfl rfl rfl rfl rfl rfl (by first | exact trivial | assumption) ?_; apply Exists.intro; refine ⟨?_, ?_⟩; focus (intro _ _ _ hK; go_step; first | exact hK | (rw [if_pos (by omega)]; go_step; exact hK) | (rw [if_neg (by omega)]; go_step; exact hK))))
    (refine wpSer_nil ?_)
    go_wp2_with fail
    go_roundw
    case rel =>
      have k1 := HKK.out.trans kW
      have k2 := k1.trans' Q3.out (fun q hq e => by have := HO.out q e; omega)
      have k3 := k2.trans HK4.out
      have s1 := k1.size
      have s3 := k3.size
      have k4 := k3.trans' Q5.out (fun q hq e => by
        rcases O3.out q e with h | h
        · have := HO.out q h; omega
        · omega)
      refine ⟨k + 1, _, hlt, by simp, by have := Y5.out; rwa [show 6 * k + 2 + 4 = 6 * (k + 1) by omega] at this, fun q hq => ?_, k4⟩
      rcases O5.out q hq with h | h
      · rcases O3.out q h with h | h
        · exact HO.out q h
        · omega
      · omega
    case measure => simp [intOf]; omega
  · obtain rfl : k = L.length := by omega
    go_wp2_with fail
    go_ret
    exact ⟨_, cs, rfl, HY.out, fun q hq => by have := HO.out q hq; simp at this; omega, HKA.out.trans HKK.out⟩
end Go.Proofs.YtchgieogdinglaaGreat
