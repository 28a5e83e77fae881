/- ConnSetups: what a new connection tells. -/
import Derived.Test.YtchgieogdinglaaGreatCsJ
set_option linter.unusedSimpArgs false
set_option linter.unusedVariables false
namespace Go.Proofs.YtchgieogdinglaaGreat
open Go.RowKit
open Ser

/-- A connection that was made, and has greeted. -/
structure ConnAt (w : World) (cb : Nat) (least : Nat) (cs : Array Value) (sv : Bool) (pin mb : Nat) (wv : Value) (n : Nat) (ys : List Value) : Prop where
  c : Blk w cb 47 cs
  c0 : cs[0]? = some (.bool sv)
  c8 : cs[8]? = some (.pointer (some ⟨pin, 0, none⟩))
  c16 : cs[16]? = some (.map (some mb))
  c17 : cs[17]? = some wv
  c19 : cs[19]? = some (.bool false)
  c23 : cs[23]? = some (.int .i64 (-1))
  m : MapB encI w mb []
  y : RY w wv n ys
  l : least ≤ n
  u : n ≤ 8000
section
variable {w w1 : World} {cb least pin mb n : Nat} {cs : Array Value} {sv : Bool} {wv : Value} {ys : List Value}
theorem ConnAt.kept (h : ConnAt w cb least cs sv pin mb wv n ys) (k : Kept (fun _ => False) w w1) : ConnAt w1 cb least cs sv pin mb wv n ys :=
  ⟨h.c.kept k (fun x => x), h.c0, h.c8, h.c16, h.c17, h.c19, h.c23, h.m.kept k (fun x => x), h.y.kept k (fun _ _ x => x), h.l, h.u⟩
theorem ConnAt.of {cs' : Array Value} (hcs : cs' = cs ∨ ∃ i u, (i = 7 ∨ i = 17) ∧ cs' = cs.setIfInBounds i u) (hsz : cs.size = 25) (h0 : cs[0]? = some (.bool sv)) (h8 : cs[8]? = some (.pointer (some ⟨pin, 0, none⟩))) (h16 : cs[16]? = some (.map (some mb))) (h19 : cs[19]? = some (.bool false))
    (h23 : cs[23]? = some (.int .i64 (-1))) (hb : Blk w cb 47 (cs'.setIfInBounds 17 wv)) (hm : MapB encI w mb []) (hy : RY w wv n ys) (hl : least ≤ n) (hu : n ≤ 8000) : ConnAt w cb least (cs'.setIfInBounds 17 wv) sv pin mb wv n ys := by
  have hs' : cs'.size = 25 := by
    rcases hcs with rfl | ⟨i, u, _, rfl⟩
    · exact hsz
    · simpa using hsz
  have far : ∀ j, j ≠ 7 → j ≠ 17 → (cs'.setIfInBounds 17 wv)[j]? = cs[j]? := fun j j7 j17 => by
    rw [Array.getElem?_setIfInBounds, if_neg (Ne.symm j17)]
    rcases hcs with rfl | ⟨i, u, hi, rfl⟩
    · rfl
    · rw [Array.getElem?_setIfInBounds, if_neg (by omega)]
  refine ⟨hb, by rw [far 0 (by omega) (by omega)]; exact h0, by rw [far 8 (by omega) (by omega)]; exact h8, by rw [far 16 (by omega) (by omega)]; exact h16, ?_, by rw [far 19 (by omega) (by omega)]; exact h19, by rw [far 23 (by omega) (by omega)]; exact h23, hm, hy, hl, hu⟩
  rw [Array.getElem?_setIfInBounds, if_pos rfl, if_pos (by omega)]
theorem ConnAt.facts (h : ConnAt w cb least cs sv pin mb wv n ys) : w.cell? ⟨cb, 0, none⟩ = some (.bool sv) ∧ w.cell? ⟨cb, 8, none⟩ = some (.pointer (some ⟨pin, 0, none⟩)) ∧ w.cell? ⟨cb, 16, none⟩ = some (.map (some mb)) ∧ w.cell? ⟨cb, 17, none⟩ = some wv ∧ w.cell? ⟨cb, 19, none⟩ = some (.bool false) ∧ w.cell? ⟨cb, 23, none⟩ = some (.int .i64 (-1)) :=
  ⟨(Blk.cell h.c 0).trans h.c0, (Blk.cell h.c 8).trans h.c8, (Blk.cell h.c 16).trans h.c16, (Blk.cell h.c 17).trans h.c17, (Blk.cell h.c 19).trans h.c19, (Blk.cell h.c 23).trans h.c23⟩

theorem conn_none (h : ConnAt w cb least cs sv pin mb wv n ys) : Calls Tryz.prog 22 #[.pointer (some ⟨cb, 0, none⟩)] w fun e w' => e = .returned (.bool false) ∧ w = w' := by
  obtain ⟨f0, f8, f16, f17, f19, f23⟩ := h.facts
  clear h
  go_enter Tryz.func22, Tryz.ntmps22
  go_wp2_with fail
  go_ret
  exact ⟨rfl, rfl⟩
theorem conn_closing (h : ConnAt w cb least cs sv pin mb wv n ys) : Calls Tryz.prog 23 #[.pointer (some ⟨cb, 0, none⟩)] w fun e w' => e = .returned (.bool true) ∧ w = w' := by
  obtain ⟨f0, f8, f16, f17, f19, f23⟩ := h.facts
  clear h
  cases sv
  · go_enter Tryz.func23, Tryz.ntmps23
    go_wp2_with fail
    go_ret
    exact ⟨rfl, rfl⟩
  · go_enter Tryz.func23, Tryz.ntmps23
    go_wp2_with fail
    go_ret
    exact ⟨rfl, rfl⟩
theorem conn_Ready (h : ConnAt w cb least cs sv pin mb wv n ys) : Calls Tryz.prog 6 #[.pointer (some ⟨cb, 0, none⟩)] w fun e w' => e = .returned (.bool false) ∧ w = w' := by
  obtain ⟨f0, f8, f16, f17, f19, f23⟩ := h.facts
  have H := Lib.hid (conn_none h)
  clear h
  go_enter Tryz.func6, Tryz.ntmps6
  go_wp2_with (go_at_call 22; refine H.out.mono ?_; rintro e w' ⟨rfl, rfl⟩)
  go_ret
  exact ⟨rfl, rfl⟩
theorem conn_Slots (h : ConnAt w cb least cs sv pin mb wv n ys) : Calls Tryz.prog 7 #[.pointer (some ⟨cb, 0, none⟩)] w fun e w' => e = .returned (.int .i64 0) ∧ w = w' := by
  have H := Lib.hid (conn_none h)
  have H2 := Lib.hid (conn_closing h)
  clear h
  go_enter Tryz.func7, Tryz.ntmps7
  go_wp2_with (first | (go_at_call 22; refine H.out.mono ?_; rintro e w' ⟨rfl, rfl⟩) | (go_at_call 23; refine H2.out.mono ?_; rintro e w' ⟨rfl, rfl⟩))
  go_ret
  exact ⟨rfl, rfl⟩
theorem conn_Failed (h : ConnAt w cb least cs sv pin mb wv n ys) : Calls Tryz.prog 9 #[.pointer (some ⟨cb, 0, none⟩)] w fun e w' => e = .returned (.int .i64 (-1)) ∧ w = w' := by
  obtain ⟨f0, f8, f16, f17, f19, f23⟩ := h.facts
  have H := Lib.hid (conn_none h)
  clear h
  go_enter Tryz.func9, Tryz.ntmps9
  go_wp2_with (go_at_call 22; refine H.out.mono ?_; rintro e w' ⟨rfl, rfl⟩)
  go_ret
  exact ⟨rfl, rfl⟩
set_option maxRecDepth 100000 in
theorem conn_Waiting (h : ConnAt w cb least cs sv pin mb wv n ys) : Calls Tryz.prog 21 #[.pointer (some ⟨cb, 0, none⟩)] w fun e w' => e = .returned (.int .i64 n) ∧ Kept (fun _ => False) w w' := by
  obtain ⟨f0, f8, f16, f17, f19, f23⟩ := h.facts
  have H := Lib.hid (conn_none h)
  have hn := h.u
  obtain ⟨o, hrun, hit⟩ := h.m.range (P := Tryz.prog) Tryz.underlying36
  have hnx := hit.next (P := Tryz.prog) 0
  have hw : ∃ ao cap, wv = .slice ao n cap := by
    rcases h.y.form with ⟨e1, e2, _⟩ | ⟨g, cap, e1, _⟩
    · exact ⟨none, 0, by rw [e1, e2]⟩
    · exact ⟨_, cap, e1⟩
  obtain ⟨ao, cap, rfl⟩ := hw
  have hnext : (Instr.next (.pointer (some ⟨w.heap.size, 0, none⟩)) false 0).run Tryz.prog (w.alloc o) = .ok (.tuple #[.bool false]) (w.alloc o) := by
    rcases hnx with ⟨_, h1⟩ | ⟨_, _, _, _, h1, _⟩
    · exact h1
    · cases h1
  clear h hit hnx
  go_enter Tryz.func21, Tryz.ntmps21
  go_wp2_with (go_at_call 22; refine H.out.mono ?_; rintro e w' ⟨rfl, rfl⟩)
  refine wp_loop_rounds 1 ?_
  rw [rounds_succ]
  go_wp2_with fail
  go_ret
  exact ⟨rfl, (Kept.refl _ _).alloc _⟩
end
end Go.Proofs.YtchgieogdinglaaGreat
