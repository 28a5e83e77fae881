/- The law's play, whatever the call; a pool that was made keeps its invariant; awake. -/
import Derived.Test.YtchgieogdinglaaLawE
set_option linter.unusedSimpArgs false
set_option linter.unusedVariables false
namespace Go.Proofs.Ytchgieogdinglaa
open Go.RowKit
open Ser
section
variable {c : PC} {d : RC} {w w1 w2 : World} {bs ds : List Bk} {N : Int} {G H : Nat → Prop}
theorem law_play (T : Two c d w bs ds N G H) (hN : N ≤ 576460752303423488) (wh a x : Int) (hx : x ≤ 9223372036854775807) :
    Calls Try.prog 10 #[.pointer (some ⟨c.pb, 0, none⟩), .pointer (some ⟨d.pb, 0, none⟩), .agg #[.int .i64 wh, .int .i64 a, .int .i64 x]] w (Played c d w bs.length ds.length (N + 1) G H) := by
  by_cases h0 : wh = 0
  · subst h0; exact play_0 T hN a x
  by_cases h1 : wh = 1
  · subst h1; exact play_1 T hN a x
  by_cases h2 : wh = 2
  · subst h2; exact play_2 T hN a x
  by_cases h3 : wh = 3
  · subst h3; exact play_3 T hN a x
  by_cases h4 : wh = 4
  · subst h4; exact play_4 T hN a x hx
  by_cases h5 : wh = 5
  · subst h5; exact play_5 T hN a x
  by_cases h6 : wh = 6
  · subst h6; exact play_6 T hN a x
  exact play_7 T hN wh a x (by simpa using h0) (by simpa using h1) (by simpa using h2) (by simpa using h3) (by simpa using h4) (by simpa using h5) (by simpa using h6)
end

/-- A pool that was made: its invariant, its wheel laid open. -/
theorem Making.inv {w0 w : World} {ab : Nat} {fl rs hd retry most : Int} {pb wb : Nat} {bs : List Bk} {lv : Value} {F : Nat → Prop} {mb : Nat} {sl : List (List Int)} {sv : List Value} (M : Making w0 ab fl rs hd retry most pb wb bs lv F mb sl sv w)
    (hl0 : 0 < bs.length) (hl : bs.length ≤ 3) (hh : HealthOk fl rs hd) (h1 : 1 ≤ retry) (h2 : retry ≤ most) (h3 : most ≤ 1073741824) :
    ∃ lb cap G, PInv ⟨pb, lb, cap, wb, retry, most, fl, rs, hd⟩ w bs 3 G ∧ PW w wb bs.length 3 F mb 0 bs.length (firstTims bs.length) sl sv ∧ (∀ k, F k → G k) ∧ ¬ F pb ∧ ¬ F lb ∧ (∀ b ∈ bs, ¬ F b.hb) ∧ ∀ k, G k → w0.heap.size ≤ k := by
  obtain ⟨ao, cap, rfl, hao⟩ := M.r.form
  obtain ⟨lb, rfl⟩ := hao hl0
  have pw : PW w wb bs.length 3 F mb 0 bs.length (firstTims bs.length) sl sv := ⟨M.wa, M.wo, by omega, by omega, firstTims_lt _⟩
  have fl' : ¬ F lb := M.fl_ lb rfl
  have fh : ∀ b ∈ bs, ¬ F b.hb := fun b hb => (M.b b hb).2.2.2.2.2.2
  have hlt : ∀ b ∈ bs, b.hb < w.heap.size := fun b hb => Blk.lt (M.b b hb).2.2.2.2.1
  refine ⟨lb, cap, fun k => F k ∨ k = pb ∨ k = lb ∨ ∃ b ∈ bs, k = b.hb, ⟨M.p, M.r, by omega, fun b hb => ?_, fun b hb => ?_, ⟨F, mb, 0, bs.length, _, sl, sv, pw, fun k h => .inl h, M.fp, fl', fh⟩, .inr (.inl rfl), .inr (.inr (.inl rfl)), fun b hb => .inr (.inr (.inr ⟨b, hb, rfl⟩)), fun k hk => ?_, ?_, ⟨h1, h2, h3⟩, ⟨hh.2.2.2.2.1, hh.2.2.2.2.2⟩, by omega⟩, pw, fun k h => .inl h, M.fp, fl', fh, fun k hk => ?_⟩
  · obtain ⟨q1, q2, q3, q4, _⟩ := M.b b hb
    exact ⟨by omega, by omega, by omega, by omega, by omega, by show b.wait ≤ most; omega⟩
  · exact ⟨0, 0, 0, (M.b b hb).2.2.2.2.1, .inl rfl, by omega, by omega, by omega, by omega⟩
  · rcases hk with h | rfl | rfl | ⟨b, hb, rfl⟩
    · exact M.wa.lt k h
    · exact M.p.lt
    · exact M.r.lt _ rfl
    · exact hlt b hb
  · have := hh.1
    simp
    omega
  · rcases hk with h | rfl | rfl | ⟨b, hb, rfl⟩
    · exact M.f0 k h
    · exact M.p0
    · exact M.l0 _ rfl
    · exact (M.b b hb).2.2.2.2.2.1
end Go.Proofs.Ytchgieogdinglaa
