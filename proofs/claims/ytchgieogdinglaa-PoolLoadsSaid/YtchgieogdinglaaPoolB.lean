/- pool: State, in, Take, Limit, Opened: the row alone. -/
import Derived.Test.YtchgieogdinglaaPoolA
set_option linter.unusedSimpArgs false
set_option linter.unusedVariables false
namespace Go.Proofs.Ytchgieogdinglaa
open Go.RowKit
open Ser

section
variable {w : World} {pb lb cap wb : Nat} {retry most : Int} {bs : List Bk}
def stateOf (bs : List Bk) (a : Int) : Int := match pick bs a with
  | some (_, b) => b.st
  | none => -1
set_option maxHeartbeats 1000000 in
theorem pool_State (h : PB 51 w pb lb bs.length cap wb retry most) (hr : BR 53 w lb cap bs) (hn : bs.length ≤ 1000) (a : Int) :
    Calls Try.prog 9 #[.pointer (some ⟨pb, 0, none⟩), .int .i64 a] w fun e w' => e = .returned (.int .i64 (stateOf bs a)) ∧ w = w' := by
  have hat := pool_at h hn a
  unfold atAns at hat
  unfold stateOf
  cases hp : pick bs a with
  | some p =>
    obtain ⟨k, b⟩ := p
    obtain ⟨hb, rfl, hk⟩ := pick_some hp
    obtain ⟨c0, c1, c2, c3, c4⟩ := hr.cells hb
    simp only [hp] at hat
    have HAT := Lib.hid hat
    clear hp hat hb
    go_enter Try.func9, Try.ntmps9
    go_wp2_with (go_at_call 23; refine HAT.out.mono ?_; rintro e w' ⟨rfl, rfl⟩)
    go_ret
    exact ⟨rfl, rfl⟩
  | none =>
    simp only [hp] at hat
    have HAT := Lib.hid hat
    clear hp hat
    go_enter Try.func9, Try.ntmps9
    go_wp2_with (go_at_call 23; refine HAT.out.mono ?_; rintro e w' ⟨rfl, rfl⟩)
    go_ret
    exact ⟨rfl, rfl⟩

/-- What 'in' answers. -/
def inAns (lb : Nat) (bs : List Bk) (a : Int) (sts : List Int) : Value := match pick bs a with
  | some (k, b) => if b.st ∈ sts then .tuple #[.pointer (some ⟨lb, k * 5, none⟩), .int .i64 0] else .tuple #[.pointer none, .int .i64 5]
  | none => .tuple #[.pointer none, .int .i64 1]
def InR (sts : List Int) (st : Int) (i : Value) : Prop := ∃ j : Nat, j ≤ sts.length ∧ i = .int .i64 j ∧ ∀ x ∈ sts.take j, x ≠ st
set_option maxHeartbeats 1000000 in
theorem pool_in (h : PB 51 w pb lb bs.length cap wb retry most) (hr : BR 53 w lb cap bs) (hn : bs.length ≤ 1000) (a : Int) {sts : List Int} {sg : Nat} (hl : sts.length ≤ 1000)
    (hs : ∀ j, j < sts.length → w.cell? ⟨sg, j, none⟩ = some (.int .i64 (sts.getD j 0))) :
    Calls Try.prog 21 #[.pointer (some ⟨pb, 0, none⟩), .int .i64 a, .slice (some ⟨sg, 0, none⟩) sts.length sts.length] w fun e w' => e = .returned (inAns lb bs a sts) ∧ w = w' := by
  have hat := pool_at h hn a
  unfold atAns at hat
  unfold inAns
  cases hp : pick bs a with
  | some p =>
    obtain ⟨k, b⟩ := p
    obtain ⟨hb, rfl, hk⟩ := pick_some hp
    obtain ⟨c0, c1, c2, c3, c4⟩ := hr.cells hb
    simp only [hp] at hat
    have HAT := Lib.hid hat
    have HS := Lib.hid hs
    clear hp hat hb hs
    obtain ⟨n, hnn⟩ : ∃ n, n = sts.length := ⟨_, rfl⟩
    rw [← hnn] at hl ⊢
    have HN := Lib.hid hnn
    clear hnn
    show Calls _ _ _ _ fun e w' => e = .returned (if b.st ∈ sts then .tuple #[.pointer (some ⟨lb, k * 5, none⟩), .int .i64 0] else .tuple #[.pointer none, .int .i64 5]) ∧ w = w'
    generalize hv : (if b.st ∈ sts then Value.tuple #[.pointer (some ⟨lb, k * 5, none⟩), .int .i64 0] else .tuple #[.pointer none, .int .i64 5]) = v
    have HV := Lib.hid hv
    clear hv
    go_enter Try.func21, Try.ntmps21
    go_wp2_with (go_at_call 23; refine HAT.out.mono ?_; rintro e w' ⟨rfl, rfl⟩)
    go_loop [23] (InR sts b.st) (fun i => n - (intOf i).toNat)
    case atStart => exact ⟨0, Nat.zero_le _, rfl, by simp⟩
    obtain ⟨j, hj, rfl, hx⟩ := hrel
    have HX := Lib.hid hx
    have HJ := Lib.hid hj
    clear hx hj
    have hjn : j ≤ n := by rw [HN.out]; exact HJ.out
    rcases Nat.lt_or_ge j n with hlt | hge
    · have hlt' : j < sts.length := by rw [← HN.out]; exact hlt
      have hc := HS.out j hlt'
      obtain ⟨x, hx⟩ : ∃ x, sts.getD j 0 = x := ⟨_, rfl⟩
      rw [hx] at hc
      have HXX := Lib.hid hx
      clear hx
      have hmem : x ∈ sts := by
        rw [← HXX.out, List.getD_eq_getElem?_getD, List.getElem?_eq_getElem hlt']
        exact List.getElem_mem _
      have HM := Lib.hid hmem
      clear hmem hlt'
      by_cases he : b.st = x
      · have heb : (b.st == x) = true := by simpa using he
        have hin : b.st ∈ sts := by rw [he]; exact HM.out
        have hv := HV.out
        rw [if_pos hin] at hv
        have HVV := Lib.hid hv
        clear he hin hv
        go_wp2_with fail
        go_ret2
        exact ⟨congrArg _ HVV.out, rfl⟩
      · have heb : (b.st == x) = false := by simpa using he
        have rel : InR sts b.st (.int .i64 ((j : Int) + 1)) := by
          refine ⟨j + 1, by rw [← HN.out]; exact hlt, by simp, fun y hy => ?_⟩
          rw [List.take_succ_eq_append_getElem (by rw [← HN.out]; exact hlt)] at hy
          rcases List.mem_append.1 hy with hy | hy
          · exact HX.out y hy
          · simp only [List.mem_singleton] at hy
            have h2 := HXX.out
            rw [List.getD_eq_getElem?_getD, List.getElem?_eq_getElem (by rw [← HN.out]; exact hlt)] at h2
            simp only [Option.getD_some] at h2
            rw [hy, h2]
            exact fun e => he e.symm
        have HR := Lib.hid rel
        clear he rel
        go_wp2_with fail
        go_round
        case rel => exact HR.out
        case measure => simp [intOf]; omega
    · obtain rfl : j = n := by omega
      have hni : ¬ b.st ∈ sts := fun hm => by
        have := HX.out b.st
        rw [HN.out, List.take_length] at this
        exact this hm rfl
      have hv := HV.out
      rw [if_neg hni] at hv
      have HVV := Lib.hid hv
      clear hni hv
      go_wp2_with fail
      go_ret2
      exact ⟨congrArg _ HVV.out, rfl⟩
  | none =>
    simp only [hp] at hat
    have HAT := Lib.hid hat
    clear hp hat hs
    go_enter Try.func21, Try.ntmps21
    go_wp2_with (go_at_call 23; refine HAT.out.mono ?_; rintro e w' ⟨rfl, rfl⟩)
    go_ret2
    exact ⟨rfl, rfl⟩
end
end Go.Proofs.Ytchgieogdinglaa
