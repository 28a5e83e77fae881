/- ConnSetups: settings are offered. -/
import Derived.Test.YtchgieogdinglaaGreatCsF
set_option linter.unusedSimpArgs false
set_option linter.unusedVariables false
namespace Go.Proofs.YtchgieogdinglaaGreat
open Go.RowKit
open Ser

section
variable {o : Oper} {a : Act} {K : Act → World → Prop} {Q : Exit → Act → World → Prop}
theorem sEnc_one (M : List (Int × Int)) : ∀ u ∈ M.flatMap sEnc, u.oneCell' = true := fun u hu => by
  obtain ⟨x, _, hx⟩ := List.mem_flatMap.1 hu
  simp [sEnc] at hx
  rcases hx with rfl | rfl <;> rfl
/-- Settings are appended to a row of settings. -/
theorem wp_pushS (w : World) (s x : Operand) (ho : o.op = .call { callee := .builtin .append, args := #[s, x], argTypes := #[112, 112] })
    (v : Value) (L : List (Int × Int)) (hs : a.eval s = v) (hown : SS w v L) (b m c : Nat) (M : List (Int × Int)) (hx : a.eval x = .slice (some ⟨b, 0, none⟩) m c) (hl : M.length = m)
    (hc : ∀ j u, (M.flatMap sEnc)[j]? = some u → w.cell? ⟨b, j, none⟩ = some u) (hn : L.length + m ≤ 1000)
    (h : ∀ v' w', SS w' v' (L ++ M) → Kept (fun q => v.ownBlock = some q) w w' → (∀ k, v'.ownBlock = some k → v.ownBlock = some k ∨ w.heap.size ≤ k) → K (a.put o.dst v') w') : o.wp Tryz.prog a w K Q := by
  obtain ⟨i0, hi, hz0, hz1, hz2⟩ := info_parts (P := Tryz.prog) (e := 110) (z := .agg #[.int .i64 0, .int .u32 0]) (size := 2) (bytes := 16) (by kernel_rfl)
  refine wp_push w s x 112 ho 110 i0 (.agg #[.int .i64 0, .int .u32 0]) 2 16 Tryz.underlying112 hi hz0 hz1 hz2 rfl (by decide) v L.length (L.flatMap sEnc) hs hown ⟨b, 0, none⟩ m c (M.flatMap sEnc) hx (by rw [flat_len sEnc 2 (fun _ => rfl), hl])
    (fun j u hu => by rw [Addr.add_lit, Nat.zero_add]; exact hc j u hu) (sEnc_one M) (by unfold maxLen; omega) (by omega) fun v' w' p => ?_
  refine h v' w' ?_ ((Kept.refl _ _).grown p.grown (fun k hk _ => hk)) p.where_
  unfold SS RS
  rw [List.flatMap_append, List.length_append, hl]
  exact p.own
theorem wpList_pushS {ops : Array Oper} {rest : List Oper} (hgd : o.guard = none) (w : World) (s x : Operand) (ho : o.op = .call { callee := .builtin .append, args := #[s, x], argTypes := #[112, 112] })
    (v : Value) (L : List (Int × Int)) (hs : a.eval s = v) (hown : SS w v L) (b m c : Nat) (M : List (Int × Int)) (hx : a.eval x = .slice (some ⟨b, 0, none⟩) m c) (hl : M.length = m)
    (hc : ∀ j u, (M.flatMap sEnc)[j]? = some u → w.cell? ⟨b, j, none⟩ = some u) (hn : L.length + m ≤ 1000)
    (h : ∀ v' w', SS w' v' (L ++ M) → Kept (fun q => v.ownBlock = some q) w w' → (∀ k, v'.ownBlock = some k → v.ownBlock = some k ∨ w.heap.size ≤ k) → wpList Tryz.prog ops Q rest (a.put o.dst v') w') : wpList Tryz.prog ops Q (o :: rest) a w :=
  wpList_plain hgd fun _ hK => wp_pushS w s x ho v L hs hown b m c M hx hl hc hn fun v' w' h1 h2 h3 => hK _ _ (h v' w' h1 h2 h3)
end
theorem SS.cells' {w : World} {v : Value} {L : List (Int × Int)} (h : SS w v L) (hn : 0 < L.length) : ∃ g cap, v = .slice (some ⟨g, 0, none⟩) L.length cap ∧ ∀ j u, (L.flatMap sEnc)[j]? = some u → w.cell? ⟨g, j, none⟩ = some u := by
  obtain ⟨ao, cap, rfl, hao⟩ := RS.form h
  obtain ⟨g, rfl⟩ := hao hn
  refine ⟨g, cap, rfl, fun j u hu => ?_⟩
  have h1 := World.ownsRow.cells (g := g) h rfl j u hu
  rwa [Addr.add_lit, Nat.zero_add] at h1

theorem line_put (v : Value) (hv : ∃ ao n c, v = .slice ao n c) (sb : Nat) (w : World) (hc : w.cell? ⟨sb, 1, none⟩ = some (.slice none 0 0)) (hf : w.frozen? ⟨sb, 1, none⟩ = false) :
    Calls Tryz.prog 47 #[.pointer (some ⟨sb, 1, none⟩), v] w fun e w' => e = .returned (.tuple #[]) ∧ Kept (· = sb) w w' := by
  obtain ⟨ao, n, c, rfl⟩ := hv
  obtain ⟨i0, hi, hz0, hz1, hz2⟩ := info_parts (P := Tryz.prog) (e := 112) (z := .slice none 0 0) (size := 1) (bytes := 24) (by kernel_rfl)
  have HC := Lib.hid hc
  have HF := Lib.hid hf
  have hsz := cell_lt_ hc
  go_enter Tryz.func47, Tryz.ntmps47
  go_wp2_with (at_builtin; refine wpList_push _ rfl _ _ 70 rfl 112 i0 (.slice none 0 0) 1 24 Tryz.underlying70 hi hz0 hz1 hz2 rfl (by decide) (.slice none 0 0) 0 [] rfl (World.ownsRow_nil _ _ _ _) ⟨w.heap.size, 0, none⟩ 1 1 [.slice ao n c] rfl rfl (fun j u hu => by rw [Addr.add_lit, Nat.zero_add]; exact (Blk.cell (Blk.new w _ _) j).trans (by simpa using hu)) (by simp [Value.oneCell']) (by unfold maxLen; omega) (by omega) ?c5)
  case c5 =>
    intro v' w' p
    have k1 : Kept (fun _ => False) w w' := ((Kept.refl _ _).alloc _).grown p.grown (fun k hk _ => by simp [Value.ownBlock] at hk)
    have hc' := (k1.cell_ (p := ⟨sb, 1, none⟩) hsz).trans hc
    have hf' : w'.frozen? ⟨sb, 1, none⟩ = false := by
      have hb := k1.block sb hsz (fun x => x)
      rw [← hf]
      simp [World.frozen?, hb]
    obtain ⟨ao2, n2, c2, rfl⟩ := p.slice
    have HK1 := Lib.hid k1
    clear k1 p hc hf
    go_wp2_with fail
    go_end0
    exact ⟨rfl, Kept.put (HK1.out.mono (fun _ _ x => x.elim)) _⟩
set_option maxRecDepth 100000 in
theorem settings_none (sb mb : Nat) (lv : Value) (w : World) (h : Blk w sb 74 #[.map (some mb), lv]) : Calls Tryz.prog 37 #[.pointer (some ⟨sb, 0, none⟩)] w fun e w' => e = .returned (.bool false) ∧ w = w' := by
  have c0 : w.cell? ⟨sb, 0, none⟩ = some (.map (some mb)) := (Blk.cell h 0).trans rfl
  have hn := fun W : World => run_eql_map_nil (P := Tryz.prog) W 69 3 63 (some mb) Tryz.underlying69
  clear h
  go_enter Tryz.func37, Tryz.ntmps37
  go_wp2_with fail
  go_ret
  exact ⟨rfl, rfl⟩

set_option maxRecDepth 100000 in
theorem settings_Offer {w : World} {sb mb : Nat} {v : Value} {L : List (Int × Int)} (h : Blk w sb 74 #[.map (some mb), .slice none 0 0]) (hs : SS w v L) (hn0 : 1 ≤ L.length) (hn : L.length ≤ 1000) :
    Calls Tryz.prog 34 #[.pointer (some ⟨sb, 0, none⟩), v] w fun e w' => e = .returned (.int .i64 0) ∧ Kept (· = sb) w w' := by
  obtain ⟨g, cap, rfl, hc⟩ := hs.cells' hn0
  have HC := Lib.hid hc
  have HB := Lib.hid h
  have hlt := Blk.lt h
  clear hc h hs
  go_enter Tryz.func34, Tryz.ntmps34
  go_wp2_with (go_at_call 37; refine (settings_none sb mb _ _ HB.out).mono ?_; rintro e w' ⟨rfl, rfl⟩)
  refine wp_region_ser [0,0,0,0,3,3] [0,1,2,3,4,5] (by kernel_rfl) (by kernel_rfl) ?_
  repeat (first | (refine wpSer_skip rfl rfl ?_) | (refine wpSer_calmE rfl rfl rfl rfl rfl rfl (by first | exact trivial | assumption) ?_; apply Exists.intro; refine ⟨?_, ?_⟩; focus (intro _ _ _ hK; go_step; first | exact hK | (rw [if_pos (by omega)]; go_step; exact hK) | (rw [if_neg (by omega)]; go_step; exact hK))))
  refine wpSer_opI rfl rfl rfl ?_
  intro _ hK
  refine wp_pushS _ _ _ rfl (.slice none 0 0) [] rfl (RS.nil _) g L.length cap L rfl rfl (fun j u hu => HC.out j u hu) (by simp; omega) ?_
  intro v1 w1 h1 k1 o1
  have HK1 := Lib.hid (k1.mono (F' := fun _ => False) (fun i _ e => by simp [Value.ownBlock] at e))
  obtain ⟨ao, cap1, rfl, _⟩ := RS.form h1
  have b1 := HB.out.drew.kept HK1.out (fun x => x)
  have HB1 := Lib.hid b1
  clear h1 k1 o1 b1
  refine hK _ _ trivial ?_
  clear hK
  repeat (first | (refine wpSer_skip rfl rfl ?_) | (refine wpSer_calmE rfl rfl rfl rfl rfl rfl (by first | exact trivial | assumption) ?_; apply Exists.intro; refine ⟨?_, ?_⟩; focus (intro _ _ _ hK; go_step; first | exact hK | (rw [if_pos (by omega)]; go_step; exact hK) | (rw [if_neg (by omega)]; go_step; exact hK))))
  refine wpSer_opI rfl rfl rfl ?_
  intro _ hK
  go_step
  refine (line_put _ ⟨_, _, _, rfl⟩ sb _ ((Blk.cell HB1.out 1).trans rfl) (Blk.frozen HB1.out 1)).mono ?_
  rintro e w2 ⟨rfl, k2⟩
  have HK2 := Lib.hid k2
  clear k2
  refine hK _ _ trivial ?_
  clear hK
  repeat (first | (refine wpSer_skip rfl rfl ?_) | (refine wpSer_calmE rfl rfl rfl rfl rfl rfl (by first | exact trivial | assumption) ?_; apply Exists.intro; refine ⟨?_, ?_⟩; focus (intro _ _ _ hK; go_step; first | exact hK | (rw [if_pos (by omega)]; go_step; exact hK) | (rw [if_neg (by omega)]; go_step; exact hK))))
  (refine wpSer_nil ?_)
  go_wp2_with fail
  go_ret
  exact ⟨rfl, ((((Kept.refl _ _).drew).trans HK1.out).mono (fun _ _ x => x.elim)).trans HK2.out⟩
end Go.Proofs.YtchgieogdinglaaGreat
