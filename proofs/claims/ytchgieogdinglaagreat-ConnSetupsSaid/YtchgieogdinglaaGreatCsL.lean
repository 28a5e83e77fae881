/- ConnSetups: no streams. -/
import Derived.Test.YtchgieogdinglaaGreatCsK
import Derived.Test.YtchgieogdinglaaGreatShelf
set_option linter.unusedSimpArgs false
set_option linter.unusedVariables false
namespace Go.Proofs.YtchgieogdinglaaGreat
open Go.RowKit
open Ser

section
variable {w w1 : World} {cb least pin mb n : Nat} {cs : Array Value} {sv : Bool} {wv : Value} {ys : List Value}
set_option maxRecDepth 100000 in
theorem conn_ids (h : ConnAt w cb least cs sv pin mb wv n ys) : Calls Tryz.prog 27 #[.pointer (some ⟨cb, 0, none⟩)] w fun e w' => e = .returned (.slice none 0 0) ∧ Kept (fun _ => False) w w' := by
  obtain ⟨f0, f8, f16, f17, f19, f23⟩ := h.facts
  obtain ⟨o, hrun, hit⟩ := h.m.range (P := Tryz.prog) Tryz.underlying36
  have hnx := hit.next (P := Tryz.prog) 0
  have hnext : (Instr.next (.pointer (some ⟨w.heap.size, 0, none⟩)) false 0).run Tryz.prog (w.alloc o) = .ok (.tuple #[.bool false]) (w.alloc o) := by
    rcases hnx with ⟨_, h1⟩ | ⟨_, _, _, _, h1, _⟩
    · exact h1
    · cases h1
  clear h hit hnx
  go_enter Tryz.func27, Tryz.ntmps27
  go_wp2_with fail
  refine wp_loop_rounds 1 ?_
  rw [rounds_succ]
  go_wp2_with fail
  refine (Go.Proofs.Tryz.slices_Sort_int_none none 0 _).mono ?_
  rintro e w' ⟨rfl, rfl⟩
  go_wp2_with fail
  go_ret
  exact ⟨rfl, (Kept.refl _ _).alloc _⟩
theorem slices_IndexFunc_nil (fv : Value) (w : World) : Calls Tryz.prog 40 #[.slice none 0 0, fv] w fun e w' => e = .returned (.int .i64 (-1)) ∧ w = w' := by
  go_enter Tryz.func40, Tryz.ntmps40
  go_wp2_with fail
  refine wp_loop_rounds 1 ?_
  rw [rounds_succ]
  go_wp2_with fail
  go_ret
  exact ⟨rfl, rfl⟩
theorem slices_DeleteFunc_nil (fv : Value) (w : World) : Calls Tryz.prog 26 #[.slice none 0 0, fv] w fun e w' => e = .returned (.slice none 0 0) ∧ w = w' := by
  go_enter Tryz.func26, Tryz.ntmps26
  go_wp2_with (go_at_call 40; refine (slices_IndexFunc_nil _ _).mono ?_; rintro e w' ⟨rfl, rfl⟩)
  go_ret
  exact ⟨rfl, rfl⟩
set_option maxRecDepth 100000 in
theorem conn_Streams (h : ConnAt w cb least cs sv pin mb wv n ys) : Calls Tryz.prog 8 #[.pointer (some ⟨cb, 0, none⟩)] w fun e w' => e = .returned (.slice none 0 0) ∧ Kept (fun _ => False) w w' := by
  have h1 := h.kept ((Kept.refl _ _).alloc (.cells #[.pointer (some ⟨cb, 0, none⟩)] 24))
  have H := Lib.hid (conn_none h1)
  have H2 := Lib.hid (conn_ids h1)
  clear h h1
  go_enter Tryz.func8, Tryz.ntmps8
  go_wp2_with (go_at_call 22; refine H.out.mono ?_; rintro e w' ⟨rfl, rfl⟩)
  refine H2.out.mono ?_
  rintro e w1 ⟨rfl, k1⟩
  have HK1 := Lib.hid k1
  clear k1
  go_wp2_with fail
  refine (slices_DeleteFunc_nil _ _).mono ?_
  rintro e w' ⟨rfl, rfl⟩
  go_wp2_with fail
  go_ret
  exact ⟨rfl, ((Kept.refl _ _).alloc _).trans HK1.out⟩
end
end Go.Proofs.YtchgieogdinglaaGreat
