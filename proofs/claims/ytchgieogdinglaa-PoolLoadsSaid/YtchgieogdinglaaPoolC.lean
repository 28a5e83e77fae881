/- pool: Take, Limit, Opened: they turn a backend's row alone. -/
import Derived.Test.YtchgieogdinglaaPoolB
set_option linter.unusedSimpArgs false
set_option linter.unusedVariables false
namespace Go.Proofs.Ytchgieogdinglaa
open Go.RowKit
open Ser

/-- What 'in' answers, behind the literal of its states. -/
theorem pool_in_new {w : World} {pb lb cap wb : Nat} {retry most : Int} {bs : List Bk} (h : PB 51 w pb lb bs.length cap wb retry most) (hr : BR 53 w lb cap bs) (hn : bs.length ≤ 1000) (a : Int) (sts : List Int) (hl : sts.length ≤ 1000) :
    Calls Try.prog 21 #[.pointer (some ⟨pb, 0, none⟩), .int .i64 a, .slice (some ⟨w.heap.size, 0, none⟩) sts.length sts.length] (w.alloc (.cells (sts.map (Value.int .i64)).toArray 3)) fun e w' => e = .returned (inAns lb bs a sts) ∧ w.alloc (.cells (sts.map (Value.int .i64)).toArray 3) = w' :=
  pool_in (h.kept (F := fun _ => False) ((Kept.refl _ _).alloc _) (fun x => x)) (hr.kept (F := fun _ => False) ((Kept.refl _ _).alloc _) (fun x => x)) hn a hl (fun j hj => by
    rw [Blk.cell (Blk.new w 3 _) j]
    simp [hj])

section
variable {w : World} {pb lb cap wb : Nat} {retry most : Int} {bs : List Bk}
def takeOf (bs : List Bk) (a : Int) : Int × List Bk := match pick bs a with
  | none => (1, bs)
  | some (k, b) => if b.st = 2 then (if b.may ≤ b.load then (9, bs) else (0, bs.set k { b with load := b.load + 1 })) else (5, bs)
/-- What a call that answers a number, and turns the row alone, has done. -/
def RowDone (lb cap : Nat) (w : World) (r : Int × List Bk) (e : Ending) (w' : World) : Prop := e = .returned (.int .i64 r.1) ∧ BR 53 w' lb cap r.2 ∧ Kept (fun k => k = lb) w w'
theorem RowDone.same {w1 : World} (hr : BR 53 w lb cap bs) (k : Kept (fun _ => False) w w1) (x : Int) : RowDone lb cap w (x, bs) (.returned (.int .i64 x)) w1 :=
  ⟨rfl, hr.kept k (fun x => x), k.mono (fun _ _ x => x.elim)⟩

theorem RowDone.of {w1 w' : World} {bs' : List Bk} (hr : BR 53 w' lb cap bs') (k : Kept (fun _ => False) w w1) (k2 : Kept (fun k => k = lb) w1 w') (x : Int) : RowDone lb cap w (x, bs') (.returned (.int .i64 x)) w' :=
  ⟨rfl, hr, (k.mono (fun _ _ x => x.elim)).trans k2⟩

set_option maxHeartbeats 1000000 in
theorem pool_Take (h : PB 51 w pb lb bs.length cap wb retry most) (hr : BR 53 w lb cap bs) (hn : bs.length ≤ 1000) (a : Int) (hb : ∀ b ∈ bs, 0 ≤ b.load ∧ b.load ≤ 1152921504606846976) :
    Calls Try.prog 7 #[.pointer (some ⟨pb, 0, none⟩), .int .i64 a] w (RowDone lb cap w (takeOf bs a)) := by
  have hin := pool_in_new h hr hn a [2] (by simp)
  have hr1 : BR 53 (w.alloc (.cells #[.int .i64 2] 3)) lb cap bs := hr.kept (F := fun _ => False) ((Kept.refl _ _).alloc _) (fun x => x)
  have hk1 : Kept (fun _ => False) w (w.alloc (.cells #[.int .i64 2] 3)) := (Kept.refl _ _).alloc _
  simp only [List.map_cons, List.map_nil, List.length_cons, List.length_nil] at hin
  unfold inAns at hin
  unfold takeOf
  cases hp : pick bs a with
  | none =>
    simp only [hp] at hin
    have HIN := Lib.hid hin
    clear hp hin hb
    go_enter Try.func7, Try.ntmps7
    go_wp2_with (go_at_call 21; refine HIN.out.mono ?_; rintro e w' ⟨rfl, rfl⟩)
    go_ret
    exact RowDone.same hr hk1 1
  | some p =>
    obtain ⟨k, b⟩ := p
    obtain ⟨hbk, rfl, hk⟩ := pick_some hp
    obtain ⟨c0, c1, c2, c3, c4⟩ := hr1.cells hbk
    have f2 := hr1.frozen (k * 5 + 2)
    have hbl := hb b (List.mem_of_getElem? hbk)
    simp only [hp, List.mem_singleton] at hin
    dsimp only
    have HB := Lib.hid hbk
    by_cases hs : b.st = 2
    · rw [if_pos hs] at hin
      rw [if_pos hs]
      have HS := Lib.hid hs
      have HIN := Lib.hid hin
      clear hp hin hb hbk hs
      by_cases hm : b.may ≤ b.load
      · have hmb : decide (b.may ≤ b.load) = true := by simpa using hm
        rw [if_pos hm]
        go_enter Try.func7, Try.ntmps7
        go_wp2_with (go_at_call 21; refine HIN.out.mono ?_; rintro e w' ⟨rfl, rfl⟩)
        go_quiet (fail)
        go_wp2
        go_ret
        exact RowDone.same hr (hk1.drewN _) 9
      · have hmb : decide (b.may ≤ b.load) = false := by simpa using hm
        rw [if_neg hm]
        go_enter Try.func7, Try.ntmps7
        go_wp2_with (go_at_call 21; refine HIN.out.mono ?_; rintro e w' ⟨rfl, rfl⟩)
        go_quiet (fail)
        go_wp2
        go_ret
        exact RowDone.of (BR.put2 (hr1.kept (F := fun _ => False) ((Kept.refl _ _).drewN _) (fun x => x)) HB.out _) (hk1.drewN _) ((Kept.refl _ _).put _) 0
    · rw [if_neg hs] at hin
      rw [if_neg hs]
      have HIN := Lib.hid hin
      clear hp hin hb hbk
      go_enter Try.func7, Try.ntmps7
      go_wp2_with (go_at_call 21; refine HIN.out.mono ?_; rintro e w' ⟨rfl, rfl⟩)
      go_ret
      exact RowDone.same hr hk1 5

def limitOf (bs : List Bk) (a n : Int) : Int × List Bk := match pick bs a with
  | none => (1, bs)
  | some (k, b) => if b.st ∈ [2, 3] then (if n < 0 then (1, bs) else (0, bs.set k { b with may := n })) else (5, bs)
set_option maxHeartbeats 1000000 in
theorem pool_Limit (h : PB 51 w pb lb bs.length cap wb retry most) (hr : BR 53 w lb cap bs) (hn : bs.length ≤ 1000) (a n : Int) :
    Calls Try.prog 33 #[.pointer (some ⟨pb, 0, none⟩), .int .i64 a, .int .i64 n] w (RowDone lb cap w (limitOf bs a n)) := by
  have hin := pool_in_new h hr hn a [2, 3] (by simp)
  have hr1 : BR 53 (w.alloc (.cells #[.int .i64 2, .int .i64 3] 3)) lb cap bs := hr.kept (F := fun _ => False) ((Kept.refl _ _).alloc _) (fun x => x)
  have hk1 : Kept (fun _ => False) w (w.alloc (.cells #[.int .i64 2, .int .i64 3] 3)) := (Kept.refl _ _).alloc _
  simp only [List.map_cons, List.map_nil, List.length_cons, List.length_nil] at hin
  unfold inAns at hin
  unfold limitOf
  cases hp : pick bs a with
  | none =>
    simp only [hp] at hin
    have HIN := Lib.hid hin
    clear hp hin
    go_enter Try.func33, Try.ntmps33
    go_wp2_with (go_at_call 21; refine HIN.out.mono ?_; rintro e w' ⟨rfl, rfl⟩)
    go_ret
    exact RowDone.same hr hk1 1
  | some p =>
    obtain ⟨k, b⟩ := p
    obtain ⟨hbk, rfl, hk⟩ := pick_some hp
    obtain ⟨c0, c1, c2, c3, c4⟩ := hr1.cells hbk
    have f2 := hr1.frozen (k * 5 + 3)
    simp only [hp] at hin
    dsimp only
    have HB := Lib.hid hbk
    by_cases hs : b.st ∈ [2, 3]
    · rw [if_pos hs] at hin
      rw [if_pos hs]
      have HIN := Lib.hid hin
      clear hp hin hbk hs
      by_cases hm : n < 0
      · have hmb : decide (n < 0) = true := by simpa using hm
        rw [if_pos hm]
        go_enter Try.func33, Try.ntmps33
        go_wp2_with (go_at_call 21; refine HIN.out.mono ?_; rintro e w' ⟨rfl, rfl⟩)
        go_ret
        exact RowDone.same hr hk1 1
      · have hmb : decide (n < 0) = false := by simpa using hm
        rw [if_neg hm]
        go_enter Try.func33, Try.ntmps33
        go_wp2_with (go_at_call 21; refine HIN.out.mono ?_; rintro e w' ⟨rfl, rfl⟩)
        go_ret
        exact RowDone.of (BR.put3 hr1 HB.out _) hk1 ((Kept.refl _ _).put _) 0
    · rw [if_neg hs] at hin
      rw [if_neg hs]
      have HIN := Lib.hid hin
      clear hp hin hbk hs
      go_enter Try.func33, Try.ntmps33
      go_wp2_with (go_at_call 21; refine HIN.out.mono ?_; rintro e w' ⟨rfl, rfl⟩)
      go_ret
      exact RowDone.same hr hk1 5

def openedOf (retry : Int) (bs : List Bk) (a : Int) : Int × List Bk := match pick bs a with
  | none => (1, bs)
  | some (k, b) => if b.st = 1 then (0, bs.set k { b with st := 2, load := 0, may := 0, wait := retry }) else (5, bs)
set_option maxHeartbeats 1000000 in
theorem pool_Opened (h : PB 51 w pb lb bs.length cap wb retry most) (hr : BR 53 w lb cap bs) (hn : bs.length ≤ 1000) (a : Int) (hlp : lb ≠ pb) :
    Calls Try.prog 27 #[.pointer (some ⟨pb, 0, none⟩), .int .i64 a] w (RowDone lb cap w (openedOf retry bs a)) := by
  have hin := pool_in_new h hr hn a [1] (by simp)
  have hr1 : BR 53 (w.alloc (.cells #[.int .i64 1] 3)) lb cap bs := hr.kept (F := fun _ => False) ((Kept.refl _ _).alloc _) (fun x => x)
  have hk1 : Kept (fun _ => False) w (w.alloc (.cells #[.int .i64 1] 3)) := (Kept.refl _ _).alloc _
  have hc2 := (h.kept hk1 (fun x => x)).c2
  simp only [List.map_cons, List.map_nil, List.length_cons, List.length_nil] at hin
  unfold inAns at hin
  unfold openedOf
  cases hp : pick bs a with
  | none =>
    simp only [hp] at hin
    have HIN := Lib.hid hin
    clear hp hin
    go_enter Try.func27, Try.ntmps27
    go_wp2_with (go_at_call 21; refine HIN.out.mono ?_; rintro e w' ⟨rfl, rfl⟩)
    go_ret
    exact RowDone.same hr hk1 1
  | some p =>
    obtain ⟨k, b⟩ := p
    obtain ⟨hbk, rfl, hk⟩ := pick_some hp
    obtain ⟨c0, c1, c2, c3, c4⟩ := hr1.cells hbk
    have f1 := hr1.frozen (k * 5 + 1)
    have f2 := hr1.frozen (k * 5 + 2)
    have f3 := hr1.frozen (k * 5 + 3)
    have f4 := hr1.frozen (k * 5 + 4)
    simp only [hp, List.mem_singleton] at hin
    dsimp only
    have HB := Lib.hid hbk
    by_cases hs : b.st = 1
    · rw [if_pos hs] at hin
      rw [if_pos hs]
      have HIN := Lib.hid hin
      clear hp hin hbk hs
      go_enter Try.func27, Try.ntmps27
      go_wp2_with (go_at_call 21; refine HIN.out.mono ?_; rintro e w' ⟨rfl, rfl⟩)
      go_ret
      have r1 := BR.put1 hr1 HB.out 2
      have r2 := BR.put2 r1 (set_at HB.out) 0
      have r3 := BR.put3 r2 (set_at (set_at HB.out)) 0
      have r4 := BR.put4 r3 (set_at (set_at (set_at HB.out))) retry
      simp only [List.set_set] at r4
      exact RowDone.of r4 hk1 (((((Kept.refl _ _).put _).put _).put _).put _) 0
    · rw [if_neg hs] at hin
      rw [if_neg hs]
      have HIN := Lib.hid hin
      clear hp hin hbk hs
      go_enter Try.func27, Try.ntmps27
      go_wp2_with (go_at_call 21; refine HIN.out.mono ?_; rintro e w' ⟨rfl, rfl⟩)
      go_ret
      exact RowDone.same hr hk1 5
end
end Go.Proofs.Ytchgieogdinglaa
