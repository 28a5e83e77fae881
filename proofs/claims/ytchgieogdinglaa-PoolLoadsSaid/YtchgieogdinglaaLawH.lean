/- The reference's pool that was made keeps its invariant; both side by side. -/
import Derived.Test.YtchgieogdinglaaLawG
set_option linter.unusedSimpArgs false
set_option linter.unusedVariables false
namespace Go.Proofs.Ytchgieogdinglaa
open Go.RowKit
open Ser

theorem RMaking.inv {w0 w : World} {n ab : Nat} {fl rs hd retry most : Int} {pb wb : Nat} {bs : List Bk} {lv : Value} {K N : Int} {wlv : Value} {L : List Rt} (M : RMaking w0 n ab fl rs hd retry most pb wb bs lv K N wlv L w)
    (hl0 : 0 < bs.length) (hn : bs.length = n) (hl : bs.length ≤ 3) (h1 : 1 ≤ retry) (h2 : retry ≤ most) (h3 : most ≤ 1073741824) :
    ∃ lb cap H, RInv ⟨pb, lb, cap, wb, retry, most⟩ w bs 3 H ∧ ∀ k, H k → w0.heap.size ≤ k := by
  obtain ⟨ao, cap, rfl, hao⟩ := M.r.form
  obtain ⟨lb, rfl⟩ := hao hl0
  have hk := M.k
  refine ⟨lb, cap, fun k => k = pb ∨ k = lb ∨ k = wb ∨ wlv.ownBlock = some k ∨ ∃ b ∈ bs, k = b.hb, ⟨M.p, M.r, by omega, fun b hb => ?_, fun b hb => (M.b b hb).2.2.1.more (by omega), ⟨N, wlv, L, ?_, fun q hq => .inr (.inr (.inr (.inl hq)))⟩, .inl rfl, .inr (.inl rfl), .inr (.inr (.inl rfl)), fun b hb => .inr (.inr (.inr (.inr ⟨b, hb, rfl⟩))), fun k hk => ?_, ⟨h1, h2, h3⟩, by omega⟩, fun k hk => ?_⟩
  · obtain ⟨q1, q2, _⟩ := M.b b hb
    exact ⟨by omega, by omega, by omega, by show b.wait ≤ most; omega⟩
  · rw [hn]; exact M.w_.more (by omega)
  · rcases hk with rfl | rfl | rfl | h | ⟨b, hb, rfl⟩
    · exact M.p.lt
    · exact M.r.lt _ rfl
    · exact M.w_.b.lt
    · exact M.w_.r.lt k h
    · obtain ⟨_, _, _, _, _, _, h, _⟩ := (M.b b hb).2.2.1
      exact Blk.lt h
  · rcases hk with rfl | rfl | rfl | h | ⟨b, hb, rfl⟩
    · exact M.p0
    · exact M.l0 _ rfl
    · exact M.w0_
    · exact M.wl0 k h
    · exact (M.b b hb).2.2.2
end Go.Proofs.Ytchgieogdinglaa
