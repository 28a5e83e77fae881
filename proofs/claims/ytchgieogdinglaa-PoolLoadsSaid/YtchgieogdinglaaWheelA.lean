/- The wheel in memory; none, New, Set. -/
import Derived.Test.YtchgieogdinglaaWheelP
import Derived.Test.YtchgieogdinglaaProg
namespace Go.Proofs.Ytchgieogdinglaa
open Go.RowKit

/-- The wheel's own block. -/
def WB (w : World) (b mb : Nat) (now set : Int) (sv : List Value) : Prop :=
  sv.length = 64 ∧ Blk w b 80 (.bool true :: .int .i64 now :: .int .i64 set :: (sv ++ [.map (some mb)])).toArray

section
variable {w w1 : World} {b mb : Nat} {now set : Int} {sv : List Value} {F : Nat → Prop}
theorem WB.c0 (h : WB w b mb now set sv) : w.cell? ⟨b, 0, none⟩ = some (.bool true) := (Blk.cell h.2 0).trans rfl
theorem WB.c1 (h : WB w b mb now set sv) : w.cell? ⟨b, 1, none⟩ = some (.int .i64 now) := (Blk.cell h.2 1).trans rfl
theorem WB.c2 (h : WB w b mb now set sv) : w.cell? ⟨b, 2, none⟩ = some (.int .i64 set) := (Blk.cell h.2 2).trans rfl
theorem WB.c67 (h : WB w b mb now set sv) : w.cell? ⟨b, 67, none⟩ = some (.map (some mb)) := by
  rw [Blk.cell h.2 67]
  simp [List.getElem?_append, h.1]
theorem WB.slot (h : WB w b mb now set sv) (s : Nat) (hs : s < 64) : w.cell? ⟨b, 3 + s, none⟩ = some (sv.getD s undef) := by
  rw [Blk.cell h.2 (3 + s)]
  have : 3 + s = s + 1 + 1 + 1 := by omega
  rw [this]
  have hl : s < sv.length := by rw [h.1]; exact hs
  simp [List.getElem?_append, hl]
theorem WB.fz (h : WB w b mb now set sv) (i : Nat) : w.frozen? ⟨b, i, none⟩ = false := Blk.frozen h.2 i
theorem WB.kept (h : WB w b mb now set sv) (k : Kept F w w1) (hb : ¬ F b) : WB w1 b mb now set sv := ⟨h.1, Blk.kept h.2 k hb⟩
theorem WB.set1 (h : WB w b mb now set sv) (v : Int) : WB (w.setCell ⟨b, 1, none⟩ (.int .i64 v)) b mb v set sv := ⟨h.1, by have := Blk.set_ h.2 1 (.int .i64 v); simpa using this⟩
theorem WB.set2 (h : WB w b mb now set sv) (v : Int) : WB (w.setCell ⟨b, 2, none⟩ (.int .i64 v)) b mb now v sv := ⟨h.1, by have := Blk.set_ h.2 2 (.int .i64 v); simpa using this⟩
theorem WB.setS (h : WB w b mb now set sv) (s : Nat) (hs : s < 64) (v : Value) : WB (w.setCell ⟨b, 3 + s, none⟩ v) b mb now set (sv.set s v) := by
  refine ⟨by simp [h.1], ?_⟩
  have := Blk.set_ h.2 (3 + s) v
  have e : 3 + s = s + 1 + 1 + 1 := by omega
  have hl : s < sv.length := by rw [h.1]; exact hs
  rw [e] at this ⊢
  simpa [List.set_append_left, hl] using this
end

/-- The wheel: its block, its map, its slots, each at home in F. -/
structure WheelAt (w : World) (b : Nat) (now set : Int) (ts : List Tim) (sl : List (List Int)) (F : Nat → Prop) (mb : Nat) (sv : List Value) : Prop where
  blk : WB w b mb now set sv
  map : IsMap encI w mb (ts.map tv)
  row : ∀ s, s < 64 → RI 3 w (sv.getD s undef) (sl.getD s [])
  apart : ∀ s s', s < 64 → s' < 64 → s ≠ s' → ∀ k, (sv.getD s undef).ownBlock = some k → (sv.getD s' undef).ownBlock ≠ some k
  fb : F b
  fm : F mb
  fs : ∀ s, s < 64 → ∀ k, (sv.getD s undef).ownBlock = some k → F k
  lt : ∀ k, F k → k < w.heap.size

/-- What a call on something at home in F comes to: nothing else has turned; its new home. -/
structure Grew (F : Nat → Prop) (w : World) (F' : Nat → Prop) (w' : World) : Prop where
  kept : Kept F w w'
  home : ∀ k, F' k → F k ∨ (w.heap.size ≤ k ∧ k < w'.heap.size)

theorem Grew.refl (F : Nat → Prop) (w : World) : Grew F w F w := ⟨Kept.refl F w, fun _ h => .inl h⟩
theorem Grew.trans {F F1 F2 : Nat → Prop} {w w1 w2 : World} (h : Grew F w F1 w1) (k : Grew F1 w1 F2 w2) : Grew F w F2 w2 :=
  ⟨h.kept.trans' k.kept (fun i hi hF => (h.home i hF).elim id (fun x => absurd hi (by omega))), fun i hi => by
    rcases k.home i hi with h1 | h1
    · rcases h.home i h1 with h2 | h2
      · exact .inl h2
      · exact .inr ⟨h2.1, Nat.lt_of_lt_of_le h2.2 k.kept.size⟩
    · exact .inr ⟨Nat.le_trans h.kept.size h1.1, h1.2⟩⟩

theorem wheel_zero (w : World) : (zeroValue 82).run Try.prog w = .ok (.agg #[.int .i64 0, .int .i64 0, .int .i64 0]) w := by kernel_rfl

set_option maxHeartbeats 400000 in
theorem wheel_none {w : World} {b mb : Nat} {now set : Int} {sv : List Value} (h : WB w b mb now set sv) :
    Calls Try.prog 39 #[.pointer (some ⟨b, 0, none⟩)] w fun e w' => e = .returned (.bool false) ∧ w = w' := by
  have c0 := h.c0
  go_enter Try.func39, Try.ntmps39
  go_wp2
  go_ret
  exact ⟨rfl, rfl⟩

set_option maxHeartbeats 400000 in
theorem wheel_New (w : World) : Calls Try.prog 14 #[] w fun e w' => ∃ b mb, e = .returned (.pointer (some ⟨b, 0, none⟩)) ∧ w.heap.size ≤ b ∧ w.heap.size ≤ mb ∧
      WB w' b mb 0 0 (List.replicate 64 (.slice none 0 0)) ∧ IsMap encI w' mb [] ∧ Kept (fun _ => False) w w' := by
  have hmm := @run_makeMap Try.prog
  go_enter Try.func14, Try.ntmps14
  go_wp2
  go_ret
  refine ⟨_, w.heap.size, rfl, by simp, Nat.le_refl _, ⟨by simp, ?_⟩, ?_, ((Kept.refl _ _).alloc _).alloc _⟩
  · exact Blk.new' _ _ _ (by simp)
  · exact IsMap.kept (F := fun _ => False) (IsMap.new encI w) ((Kept.refl _ _).alloc _) (fun x => x)
end Go.Proofs.Ytchgieogdinglaa
