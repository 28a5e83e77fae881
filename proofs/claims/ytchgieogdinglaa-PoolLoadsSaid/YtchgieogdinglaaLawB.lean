/- Both pools side by side; the law's play. -/
import Derived.Test.YtchgieogdinglaaLawA
set_option linter.unusedSimpArgs false
set_option linter.unusedVariables false
namespace Go.Proofs.Ytchgieogdinglaa
open Go.RowKit
open Ser

structure Two (c : PC) (d : RC) (w : World) (bs ds : List Bk) (N : Int) (G H : Nat → Prop) : Prop where
  p : PInv c w bs N G
  r : RInv d w ds N H
  apart : ∀ k, G k → ¬ H k
/-- What a call on both has done. -/
def TwoDone (c : PC) (d : RC) (w : World) (n m : Nat) (N : Int) (G H : Nat → Prop) (w' : World) : Prop :=
  ∃ bs ds G' H', bs.length = n ∧ ds.length = m ∧ Two c d w' bs ds N G' H' ∧ Kept (fun k => G k ∨ H k) w w' ∧ (∀ k, G' k ∨ H' k → (G k ∨ H k) ∨ w.heap.size ≤ k)

section
variable {c : PC} {d : RC} {w w1 w2 : World} {bs ds : List Bk} {N : Int} {G H : Nat → Prop}
theorem Two.kept {F : Nat → Prop} (T : Two c d w bs ds N G H) (k : Kept F w w1) (h1 : ∀ i, G i → ¬ F i) (h2 : ∀ i, H i → ¬ F i) : Two c d w1 bs ds N G H := ⟨T.p.kept k h1 (Int.le_refl _), T.r.kept k h2 (Int.le_refl _), T.apart⟩
theorem Two.more {N' : Int} (T : Two c d w bs ds N G H) (h : N ≤ N') : Two c d w bs ds N' G H := ⟨T.p.kept (H := fun _ => False) (Kept.refl _ _) (fun _ _ x => x) h, T.r.more h, T.apart⟩
/-- The program's pool has taken a step, then the reference's. -/
theorem Two.steps (T : Two c d w bs ds N G H) (s : Step c w bs N G w1) (k : Kept (fun _ => False) w1 w2) {w3 : World} (t : ∀ I : RInv d w2 ds N H, RStep d w2 ds N H w3) : TwoDone c d w bs.length ds.length (N + 1) G H w3 := by
  obtain ⟨bs', G', hl, hp, hg⟩ := s
  have r1 : RInv d w1 ds N H := T.r.kept hg.kept (fun i hi hG => T.apart i hG hi) (Int.le_refl _)
  have r2 : RInv d w2 ds N H := r1.kept k (fun _ _ x => x) (Int.le_refl _)
  obtain ⟨ds', H', hm, hr, hh⟩ := t r2
  have a1 : ∀ i, G' i → ¬ H i := fun i hi hH => by
    rcases hg.home i hi with h | h
    · exact T.apart i h hH
    · have := T.r.lt i hH; omega
  have a2 : ∀ i, G' i → ¬ H' i := fun i hi hH => by
    rcases hh.home i hH with h | h
    · exact a1 i hi h
    · have := hp.lt i hi; have := k.size; omega
  refine ⟨bs', ds', G', H', hl, hm, ⟨(hp.kept k (fun _ _ x => x) (Int.le_refl _)).kept hh.kept (fun i hi hH => a1 i hi hH) (Int.le_refl _), hr, a2⟩, ?_, fun i hi => ?_⟩
  · exact ((hg.kept.mono (fun i _ h => .inl h)).trans (k.mono (fun _ _ x => x.elim))).trans (hh.kept.mono (fun i _ h => .inr h))
  · have s1 := hg.kept.size
    have s2 := k.size
    rcases hi with h | h
    · rcases hg.home i h with h | h
      · exact .inl (.inl h)
      · exact .inr h.1
    · rcases hh.home i h with h | h
      · exact .inl (.inr h)
      · right; omega

def Played (c : PC) (d : RC) (w : World) (n m : Nat) (N : Int) (G H : Nat → Prop) (e : Ending) (w' : World) : Prop := (∃ b, e = .returned (.bool b)) ∧ TwoDone c d w n m N G H w'

theorem row_same (I : PInv c w bs N G) {x : Int} {e : Ending} (h : RowDone c.lb c.cap w (x, bs) e w1) : Stepped c w bs N G e w1 :=
  h.step I rfl fun b' hb' => ⟨(I.b b' hb').more (by omega), b', hb', rfl⟩
theorem row_set (I : PInv c w bs N G) {x : Int} {e : Ending} {k : Nat} {b y : Bk} (hb : bs[k]? = some b) (hy : BkOk c (N + 1) y) (hh : y.hb = b.hb) (h : RowDone c.lb c.cap w (x, bs.set k y) e w1) : Stepped c w bs N G e w1 :=
  h.step I (by simp) fun b' hb' => by
    rcases List.mem_or_eq_of_mem_set hb' with h | rfl
    · exact ⟨(I.b b' h).more (by omega), b', h, rfl⟩
    · exact ⟨hy, b, List.mem_of_getElem? hb, hh⟩
theorem opened_step (I : PInv c w bs N G) {a : Int} {e : Ending} (h : RowDone c.lb c.cap w (openedOf c.retry bs a) e w1) : Stepped c w bs N G e w1 := by
  have hn := I.n0
  have hc := I.c1
  unfold openedOf at h
  cases hp : pick bs a with
  | none => simp only [hp] at h; exact row_same I h
  | some p =>
    obtain ⟨k, b⟩ := p
    obtain ⟨hb, _, _⟩ := pick_some hp
    simp only [hp] at h
    split at h
    · exact row_set (y := { b with st := 2, load := 0, may := 0, wait := c.retry }) I hb ⟨by simp, by simp only; omega, by simp, by simp, hc.1, hc.2.1⟩ rfl h
    · exact row_same I h
theorem take_step (I : PInv c w bs N G) {a : Int} {e : Ending} (h : RowDone c.lb c.cap w (takeOf bs a) e w1) : Stepped c w bs N G e w1 := by
  unfold takeOf at h
  cases hp : pick bs a with
  | none => simp only [hp] at h; exact row_same I h
  | some p =>
    obtain ⟨k, b⟩ := p
    obtain ⟨hb, _, _⟩ := pick_some hp
    have hbo := I.b b (List.mem_of_getElem? hb)
    simp only [hp] at h
    split at h
    · split at h
      · exact row_same I h
      · exact row_set (y := { b with load := b.load + 1 }) I hb ⟨by have := hbo.1; simp only; omega, by have := hbo.2.1; simp only; omega, hbo.2.2⟩ rfl h
    · exact row_same I h
theorem limit_step (I : PInv c w bs N G) {a x : Int} (hx : x ≤ 9223372036854775807) {e : Ending} (h : RowDone c.lb c.cap w (limitOf bs a x) e w1) : Stepped c w bs N G e w1 := by
  unfold limitOf at h
  cases hp : pick bs a with
  | none => simp only [hp] at h; exact row_same I h
  | some p =>
    obtain ⟨k, b⟩ := p
    obtain ⟨hb, _, _⟩ := pick_some hp
    have hbo := I.b b (List.mem_of_getElem? hb)
    simp only [hp] at h
    split at h
    · split at h
      · exact row_same I h
      · exact row_set (y := { b with may := x }) I hb ⟨hbo.1, by have := hbo.2.1; simp only; omega, by simp only; omega, hx, hbo.2.2.2.2⟩ rfl h
    · exact row_same I h

set_option maxHeartbeats 1000000 in
set_option maxRecDepth 20000 in
theorem play_1 (T : Two c d w bs ds N G H) (hN : N ≤ 576460752303423488) (a x : Int) :
    Calls Try.prog 10 #[.pointer (some ⟨c.pb, 0, none⟩), .pointer (some ⟨d.pb, 0, none⟩), .agg #[.int .i64 1, .int .i64 a, .int .i64 x]] w (Played c d w bs.length ds.length (N + 1) G H) := by
  have kA : Kept (fun _ => False) w (w.alloc (.cells #[.int .i64 1, .int .i64 a, .int .i64 x] 33)) := (Kept.refl _ _).alloc _
  have bA := Blk.new w 33 #[.int .i64 1, .int .i64 a, .int .i64 x]
  have T2 := (T.kept kA (fun _ _ x => x) (fun _ _ x => x)).kept (F := fun _ => False) ((Kept.refl _ _).drew) (fun _ _ x => x) (fun _ _ x => x)
  have k0 : Kept (fun _ => False) w (w.alloc (.cells #[.int .i64 1, .int .i64 a, .int .i64 x] 33)).drew := kA.drew
  have hob : ¬ G w.heap.size := fun h => by have := T.p.lt _ h; omega
  have hop : Calls Try.prog 27 #[.pointer (some ⟨c.pb, 0, none⟩), .int .i64 a] _ (Stepped c (w.alloc (.cells #[.int .i64 1, .int .i64 a, .int .i64 x] 33)).drew bs N G) := (pool_Opened T2.p.p T2.p.r T2.p.n a T2.p.lb_pb).mono fun e w1 h => opened_step T2.p h
  have ho : ∀ w1, Step c (w.alloc (.cells #[.int .i64 1, .int .i64 a, .int .i64 x] 33)).drew bs N G w1 → w1.cell? ⟨w.heap.size, 1, none⟩ = some (.int .i64 a) := fun w1 h => by
    obtain ⟨_, _, _, _, hg⟩ := h
    exact (Blk.cell (Blk.kept bA.drew hg.kept hob) 1).trans rfl
  have href : ∀ w1, Step c (w.alloc (.cells #[.int .i64 1, .int .i64 a, .int .i64 x] 33)).drew bs N G w1 → Calls Try.prog 28 #[.pointer (some ⟨d.pb, 0, none⟩), .int .i64 a] w1 (RStepped d w1 ds N H) := fun w1 h => by
    obtain ⟨_, _, _, _, hg⟩ := h
    exact ref_Opened (T2.r.kept hg.kept (fun i hi hG => T2.apart i hG hi) (Int.le_refl _)) a
  have hob2 : ¬ H w.heap.size := fun h => by have := T.r.lt _ h; omega
  have ho3 : ∀ w1 w3, Step c (w.alloc (.cells #[.int .i64 1, .int .i64 a, .int .i64 x] 33)).drew bs N G w1 → RStep d w1 ds N H w3 → w3.cell? ⟨w.heap.size, 1, none⟩ = some (.int .i64 a) := fun w1 w3 h h' => by
    obtain ⟨_, _, _, _, hg⟩ := h
    obtain ⟨_, _, _, _, hg'⟩ := h'
    exact (Blk.cell (Blk.kept (Blk.kept bA.drew hg.kept hob) hg'.kept hob2) 1).trans rfl
  have HO3 := Lib.hid ho3
  have o1 : (w.alloc (.cells #[.int .i64 1, .int .i64 a, .int .i64 x] 33)).drew.cell? ⟨w.heap.size, 1, none⟩ = some (.int .i64 a) := (Blk.cell bA 1).trans rfl
  have HOP := Lib.hid hop
  have HT := Lib.hid T2
  have HO := Lib.hid ho
  have HREF := Lib.hid href
  clear T T2 hop bA ho href ho3
  go_enter Try.func10, Try.ntmps10
  go_wp2_with fail
  refine wp_region_serI (fun W => W.cell? ⟨w.heap.size, 1, none⟩ = some (.int .i64 a)) [0,0,0,3,0,0,0,3,0,0] [0,1,2,3,4,5,6,7,8,9] (by kernel_rfl) (by kernel_rfl) o1 ?_
  repeat (first | (refine wpSer_skip rfl rfl ?_) | (refine wpSer_calmE rfl rfl rfl rfl rfl rfl (by first | exact trivial | assumption) ?_; apply Exists.intro; refine ⟨?_, ?_⟩; focus (intro _ _ _ hK; go_step; first | exact hK | (rw [if_pos (by omega)]; go_step; exact hK) | (rw [if_neg (by omega)]; go_step; exact hK))))
  refine wpSer_opI rfl rfl rfl ?_
  intro _ hK
  go_step
  refine HOP.out.mono ?_
  rintro e w1 ⟨⟨v1, rfl⟩, hs1⟩
  have o2 := HO.out w1 hs1
  have HS1 := Lib.hid hs1
  clear hs1
  refine hK _ _ o2 ?_
  clear hK
  repeat (first | (refine wpSer_skip rfl rfl ?_) | (refine wpSer_calmE rfl rfl rfl rfl rfl rfl (by first | exact trivial | assumption) ?_; apply Exists.intro; refine ⟨?_, ?_⟩; focus (intro _ _ _ hK; go_step; first | exact hK | (rw [if_pos (by omega)]; go_step; exact hK) | (rw [if_neg (by omega)]; go_step; exact hK))))
  refine wpSer_opI rfl rfl rfl ?_
  intro _ hK
  go_step
  refine (HREF.out w1 HS1.out).mono ?_
  rintro e w3 ⟨⟨v2, rfl⟩, hs3⟩
  have o3 : w3.cell? ⟨w.heap.size, 1, none⟩ = some (.int .i64 a) := HO3.out w1 w3 HS1.out hs3
  have HS3 := Lib.hid hs3
  clear hs3
  refine hK _ _ o3 ?_
  clear hK
  repeat (first | (refine wpSer_skip rfl rfl ?_) | (refine wpSer_calmE rfl rfl rfl rfl rfl rfl (by first | exact trivial | assumption) ?_; apply Exists.intro; refine ⟨?_, ?_⟩; focus (intro _ _ _ hK; go_step; first | exact hK | (rw [if_pos (by omega)]; go_step; exact hK) | (rw [if_neg (by omega)]; go_step; exact hK))))
  (refine wpSer_nil ?_)
  go_wp2_with fail
  go_ret
  obtain ⟨bs', ds', G', H', q1, q2, q3, q4, q5⟩ := HT.out.steps HS1.out (Kept.refl _ _) (fun _ => HS3.out)
  exact ⟨⟨_, rfl⟩, bs', ds', G', H', q1, q2, q3, (k0.mono (fun _ _ x => x.elim)).trans q4, fun i hi => (q5 i hi).imp (fun x => x) (fun x => Nat.le_trans k0.size x)⟩
end
end Go.Proofs.Ytchgieogdinglaa
