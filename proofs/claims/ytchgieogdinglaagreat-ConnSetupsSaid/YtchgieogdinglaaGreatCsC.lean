/- ConnSetups: numbers in bytes. -/
import Derived.Test.YtchgieogdinglaaGreatCsB
set_option linter.unusedSimpArgs false
set_option linter.unusedVariables false
namespace Go.Proofs.YtchgieogdinglaaGreat
open Go.RowKit
open Ser

/-- Some bytes, as cells. -/
def ByteCells (cs : List Value) : Prop := ∀ u ∈ cs, ∃ x : Int, u = .int .u8 x
theorem ByteCells.one {cs : List Value} (h : ByteCells cs) : ∀ u ∈ cs, u.oneCell' = true := fun u hu => by
  obtain ⟨x, rfl⟩ := h u hu
  rfl
/-- What a call that makes n bytes has done: they lie from place o on of a block of its own, without room behind. -/
def BytesMade (w : World) (n : Nat) (e : Ending) (w' : World) : Prop :=
  ∃ b o cs, e = .returned (.slice (some ⟨b, o, none⟩) n n) ∧ cs.length = n ∧ ByteCells cs ∧ (∀ j u, cs[j]? = some u → w'.cell? ⟨b, o + j, none⟩ = some u) ∧ w.heap.size ≤ b ∧ Kept (fun _ => False) w w'
def BytesMadeOk (w : World) (n : Nat) (e : Ending) (w' : World) : Prop :=
  ∃ b o cs, e = .returned (.tuple #[.slice (some ⟨b, o, none⟩) n n, .int .i64 0]) ∧ cs.length = n ∧ ByteCells cs ∧ (∀ j u, cs[j]? = some u → w'.cell? ⟨b, o + j, none⟩ = some u) ∧ w.heap.size ≤ b ∧ Kept (fun _ => False) w w'

theorem bytes_cells {w : World} {T : TypeId} {cs : List Value} (j : Nat) (u : Value) (hu : cs[j]? = some u) : (w.alloc (.cells cs.toArray T)).cell? ⟨w.heap.size, 0 + j, none⟩ = some u := by
  rw [Blk.cell (Blk.new w T cs.toArray)]
  simpa using hu
theorem field_Put32 (n : Int) (w : World) : Calls Tryz.prog 60 #[.int .u32 n] w (BytesMade w 4) := by
  go_enter Tryz.func60, Tryz.ntmps60
  go_wp2_with fail
  go_ret
  exact ⟨w.heap.size, 0, [.int .u8 (n / 16777216 % 256), .int .u8 (n / 65536 % 256), .int .u8 (n / 256 % 256), .int .u8 (n % 256)], rfl, rfl, by simp [ByteCells], fun j u hu => bytes_cells j u hu, Nat.le_refl _, (Kept.refl _ _).alloc _⟩

theorem field_put16 (n : Int) (w : World) (h0 : 0 ≤ n) (h1 : n < 65536) : Calls Tryz.prog 101 #[.int .i64 n, .int .i64 2, .int .i64 16] w (BytesMadeOk w 2) := by
  have g0 : decide (n < 0) = false := by simpa using h0
  have g1 : (n / 65536 != 0) = false := by simp; omega
  go_enter Tryz.func101, Tryz.ntmps101
  go_wp2_with fail
  refine (field_Put32 n _).mono ?_
  rintro e w1 ⟨b, o, cs, rfl, hl, hb, hc, h4, hk⟩
  have HC := Lib.hid hc
  have HK := Lib.hid hk
  have HL := Lib.hid hl
  clear hc hk hl
  go_wp2_with fail
  go_ret2
  exact ⟨b, o + 2, cs.drop 2, rfl, by rw [List.length_drop, HL.out], fun u hu => hb u (List.mem_of_mem_drop hu), fun j u hu => by
    have h := HC.out (2 + j) u (by rw [← hu, List.getElem?_drop])
    rw [Nat.add_assoc]; exact h, h4, HK.out⟩
theorem field_put24 (n : Int) (w : World) (h0 : 0 ≤ n) (h1 : n < 16777216) : Calls Tryz.prog 101 #[.int .i64 n, .int .i64 3, .int .i64 24] w (BytesMadeOk w 3) := by
  have g0 : decide (n < 0) = false := by simpa using h0
  have g1 : (n / 16777216 != 0) = false := by simp; omega
  go_enter Tryz.func101, Tryz.ntmps101
  go_wp2_with fail
  refine (field_Put32 n _).mono ?_
  rintro e w1 ⟨b, o, cs, rfl, hl, hb, hc, h4, hk⟩
  have HC := Lib.hid hc
  have HK := Lib.hid hk
  have HL := Lib.hid hl
  clear hc hk hl
  go_wp2_with fail
  go_ret2
  exact ⟨b, o + 1, cs.drop 1, rfl, by rw [List.length_drop, HL.out], fun u hu => hb u (List.mem_of_mem_drop hu), fun j u hu => by
    have h := HC.out (1 + j) u (by rw [← hu, List.getElem?_drop])
    rw [Nat.add_assoc]; exact h, h4, HK.out⟩
theorem field_Put16 (n : Int) (w : World) (h0 : 0 ≤ n) (h1 : n < 65536) : Calls Tryz.prog 110 #[.int .i64 n] w (BytesMadeOk w 2) := by
  go_enter Tryz.func110, Tryz.ntmps110
  go_wp2_with (go_at_call 101; refine (field_put16 n _ h0 h1).mono ?_; rintro e w1 ⟨b, o, cs, rfl, h⟩)
  go_ret2
  exact ⟨b, o, cs, rfl, h⟩
theorem field_Put24 (n : Int) (w : World) (h0 : 0 ≤ n) (h1 : n < 16777216) : Calls Tryz.prog 61 #[.int .i64 n] w (BytesMadeOk w 3) := by
  go_enter Tryz.func61, Tryz.ntmps61
  go_wp2_with (go_at_call 101; refine (field_put24 n _ h0 h1).mono ?_; rintro e w1 ⟨b, o, cs, rfl, h⟩)
  go_ret2
  exact ⟨b, o, cs, rfl, h⟩
theorem frame_four (n : Int) (w : World) (h0 : 0 ≤ n) (h1 : n ≤ 2147483647) : Calls Tryz.prog 62 #[.int .i64 n] w (BytesMade w 4) := by
  go_enter Tryz.func62, Tryz.ntmps62
  go_wp2_with (go_at_call 60; refine (field_Put32 n _).mono ?_; rintro e w1 ⟨b, o, cs, rfl, h⟩)
  go_ret
  exact ⟨b, o, cs, rfl, h⟩
end Go.Proofs.YtchgieogdinglaaGreat
