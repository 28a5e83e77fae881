/- The law's helpers: ints, play, awake. -/
import Derived.Test.YtchgieogdinglaaRefH
import Derived.Test.YtchgieogdinglaaSer2
set_option linter.unusedSimpArgs false
set_option linter.unusedVariables false
namespace Go.Proofs.Ytchgieogdinglaa
open Go.RowKit
open Ser

theorem RI.open_ {E : TypeId} {w : World} {v : Value} {l : List Int} (h : RI E w v l) : ∃ ao cap, v = .slice ao l.length cap ∧ (0 < l.length → ∃ g, ao = some ⟨g, 0, none⟩) := by
  rcases h.form with ⟨e, e2⟩ | ⟨g, cap, cur, e, _⟩
  · rw [e2]; exact ⟨none, 0, e, fun h => by simp at h⟩
  · exact ⟨_, cap, e, fun _ => ⟨g, rfl⟩⟩

def IntsR (w : World) (n : Nat) (i : Value) (wr : World) : Prop := ∃ k : Nat, k ≤ n ∧ i = .int .i64 k ∧ Kept (fun _ => False) w wr
def SomeBool (w : World) (e : Ending) (w' : World) : Prop := (∃ b, e = .returned (.bool b)) ∧ Kept (fun _ => False) w w'
set_option maxHeartbeats 1000000 in
theorem law_ints {w : World} {v1 v2 : Value} {l1 l2 : List Int} (h1 : RI 3 w v1 l1) (h2 : RI 3 w v2 l2) (n1 : l1.length ≤ 1000) (n2 : l2.length ≤ 1000) :
    Calls Try.prog 24 #[v1, v2] w (SomeBool w) := by
  obtain ⟨a1, c1, rfl, e1⟩ := h1.open_
  obtain ⟨a2, c2, rfl, e2⟩ := h2.open_
  by_cases hl : l1.length = l2.length
  · rw [hl] at h1 n1 e1 ⊢
    have H1 := Lib.hid h1
    have H2 := Lib.hid h2
    have E1 := Lib.hid e1
    have E2 := Lib.hid e2
    have HL := Lib.hid hl
    have HT := Lib.hid (show IntsR w l2.length (.int .i64 0) w from ⟨0, Nat.zero_le _, rfl, Kept.refl _ _⟩)
    clear h1 h2 e1 e2 hl
    go_enter Try.func24, Try.ntmps24
    go_wp2_with fail
    go_loopw [5] (IntsR w l2.length) (fun i _ => l2.length - (intOf i).toNat)
    case atStart => exact HT.out
    obtain ⟨k, hk, rfl, hkk⟩ := hrel
    rcases Nat.lt_or_ge k l2.length with hlt | hge
    · obtain ⟨g1, rfl⟩ := E1.out (by omega)
      obtain ⟨g2, rfl⟩ := E2.out (by omega)
      have d1 := RI.cell (v := .slice (some ⟨g1, 0, none⟩) l2.length c1) (H1.out.kept hkk (fun _ _ x => x)) (by rw [HL.out]) k (by rw [HL.out]; exact hlt)
      have d2 := RI.cell (H2.out.kept hkk (fun _ _ x => x)) rfl k hlt
      obtain ⟨x, hx⟩ : ∃ x, l1.getD k 0 = x := ⟨_, rfl⟩
      obtain ⟨y, hy⟩ : ∃ x, l2.getD k 0 = x := ⟨_, rfl⟩
      rw [hx] at d1
      rw [hy] at d2
      have HKK := Lib.hid hkk
      clear hx hy hkk
      by_cases he : x = y
      · have eb : (x == y) = true := by simpa using he
        subst he
        go_wp2_with fail
        go_quiet (fail)
        go_wp2_with fail
        go_roundw
        case rel => exact ⟨k + 1, hlt, by simp, HKK.out.drewN _⟩
        case measure => simp [intOf]; omega
      · have eb : (x == y) = false := by simpa using he
        clear he
        go_wp2_with fail
        go_quiet (fail)
        go_wp2_with fail
        go_ret
        exact ⟨⟨_, rfl⟩, HKK.out.drewN _⟩
    · have hj2 : k = l2.length := by omega
      subst hj2
      have HKK := Lib.hid hkk
      clear hkk
      go_wp2_with fail
      go_ret
      exact ⟨⟨_, rfl⟩, HKK.out⟩
  · have eb : ((l1.length : Int) == (l2.length : Int)) = false := by simp; omega
    clear hl
    go_enter Try.func24, Try.ntmps24
    go_wp2_with fail
    go_ret
    exact ⟨⟨_, rfl⟩, Kept.refl _ _⟩
end Go.Proofs.Ytchgieogdinglaa
