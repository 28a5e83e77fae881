/- ConnSetups: a frame of settings is written. -/
import Derived.Test.YtchgieogdinglaaGreatCsE
set_option linter.unusedSimpArgs false
set_option linter.unusedVariables false
namespace Go.Proofs.YtchgieogdinglaaGreat
open Go.RowKit
open Ser

theorem frame_Known (w : World) : Calls Tryz.prog 55 #[.int .i64 4] w fun e w' => e = .returned (.bool true) ∧ w = w' := by
  go_enter Tryz.func55, Tryz.ntmps55
  go_wp2_with fail
  go_ret
  exact ⟨rfl, rfl⟩
theorem frame_id (w : World) : Calls Tryz.prog 56 #[.int .i64 0] w fun e w' => e = .returned (.bool true) ∧ w = w' := by
  go_enter Tryz.func56, Tryz.ntmps56
  go_wp2_with fail
  go_ret
  exact ⟨rfl, rfl⟩
theorem frame_kinds (w : World) : Calls Tryz.prog 57 #[.int .i64 4] w fun e w' => e = .returned (.agg #[.bool true, .bool false, .bool false, .func (.func 87) #[] #[], .func (.func 88) #[] #[], .func (.func 89) #[] #[], .func (.func 90) #[] #[]]) ∧ Kept (fun _ => False) w w' := by
  go_enter Tryz.func57, Tryz.ntmps57
  go_wp2_with fail
  refine bodyPost_ret (v := .agg #[.bool true, .bool false, .bool false, .func (.func 87) #[] #[], .func (.func 88) #[] #[], .func (.func 89) #[] #[], .func (.func 90) #[] #[]]) (by simp [results, Tryz.results57, go_sem]) rfl ⟨rfl, (Kept.refl _ _).alloc _⟩
theorem frame_right (w : World) : Calls Tryz.prog 58 #[.agg #[.bool true, .bool false, .bool false, .func (.func 87) #[] #[], .func (.func 88) #[] #[], .func (.func 89) #[] #[], .func (.func 90) #[] #[]], .int .i64 0] w fun e w' => e = .returned (.bool true) ∧ Kept (fun _ => False) w w' := by
  go_enter Tryz.func58, Tryz.ntmps58
  go_wp2_with fail
  go_ret
  exact ⟨rfl, (Kept.refl _ _).alloc _⟩
theorem frame_weighted (v : Value) (h1 : ∃ ao n c, v = .slice ao n c) (w : World) : Calls Tryz.prog 59 #[.agg #[.int .i64 4, .int .i64 0, .int .i64 0, .slice none 0 0, .int .i64 0, .int .u32 0, .int .i64 0, .int .i64 0, .int .i64 0, .bool false, .int .i64 0, v]] w fun e w' => e = .returned (.bool false) ∧ Kept (fun _ => False) w w' := by
  obtain ⟨ao, n, c, rfl⟩ := h1
  go_enter Tryz.func59, Tryz.ntmps59
  go_wp2_with fail
  go_ret
  exact ⟨rfl, (Kept.refl _ _).alloc _⟩

section
variable {o : Oper} {a : Act} {K : Act → World → Prop} {Q : Exit → Act → World → Prop}
/-- Bytes are appended to bytes that have no room behind. -/
theorem wpList_growB {ops : Array Oper} {rest : List Oper} (hgd : o.guard = none) (w : World) (s x : Operand) (ho : o.op = .call { callee := .builtin .append, args := #[s, x], argTypes := #[44, 44] })
    (b0 i0 n : Nat) (xs : List Value) (hs : a.eval s = .slice (some ⟨b0, i0, none⟩) n n) (hl0 : xs.length = n) (hb0 : ByteCells xs) (hc0 : ∀ j u, xs[j]? = some u → w.cell? ⟨b0, i0 + j, none⟩ = some u)
    (b i m c : Nat) (cs : List Value) (hx : a.eval x = .slice (some ⟨b, i, none⟩) m c) (hl : cs.length = m) (hm : 0 < m)
    (hb : ByteCells cs) (hc : ∀ j u, cs[j]? = some u → w.cell? ⟨b, i + j, none⟩ = some u) (hn : n + m ≤ 1000000)
    (h : ∀ v' w', RY w' v' (n + m) (xs ++ cs) → Kept (fun _ => False) w w' → (∀ k, v'.ownBlock = some k → w.heap.size ≤ k) → wpList Tryz.prog ops Q rest (a.put o.dst v') w') : wpList Tryz.prog ops Q (o :: rest) a w := by
  obtain ⟨ii, hi, hz0, hz1, hz2⟩ := info_parts (P := Tryz.prog) (e := 5) (z := .int .u8 0) (size := 1) (bytes := 1) (by kernel_rfl)
  refine wpList_plain hgd fun _ hK => ?_
  obtain ⟨v', w', hr, h2, h3⟩ := run_append_arg_grows (P := Tryz.prog) w 44 o.type 5 ii (.int .u8 0) 1 1 Tryz.underlying44 hi hz0 hz1 hz2 rfl (by decide) ⟨b0, i0, none⟩ n n xs (by omega) (fun j u hu => by rw [Addr.add_lit]; exact hc0 j u hu)
    ⟨b, i, none⟩ m c cs (by omega) (fun j u hu => by rw [Addr.add_lit]; exact hc j u hu) (by omega) (by unfold maxLen; omega) (by omega)
  refine wp_run (v := v') (w' := w') ?_ (hK _ _ (h v' w' ⟨ownsRow_base h2 (Nat.zero_le _), fun u hu => ?_⟩ ⟨h3.os, h3.tape, h3.output, h3.size, fun k hk _ => h3.block k hk (by simp)⟩ (fun k hk => (h2.lt k hk).1)))
  · unfold execOp
    simp only [ho, resolve, invoke, builtin, Sem.run_bind, Sem.run_pure, Result.andThen_ok, List.map_toArray, List.map_cons, List.map_nil, hs, hx, hr]
  · rcases List.mem_append.1 hu with hu | hu
    · exact hb0 u hu
    · exact hb u hu
end

/-- The frame in block fb, its kind in block kb. -/
def FB (w : World) (fb kb : Nat) (v : Value) : Prop := Blk w fb 116 #[.int .i64 4, .int .i64 0, .int .i64 0, .slice none 0 0, .int .i64 0, .int .u32 0, .int .i64 0, .int .i64 0, .int .i64 0, .bool false, .int .i64 0, v] ∧ Blk w kb 144 #[.bool true, .bool false, .bool false, .func (.func 87) #[] #[], .func (.func 88) #[] #[], .func (.func 89) #[] #[], .func (.func 90) #[] #[]]
theorem FB.facts {w : World} {fb kb : Nat} {v : Value} (h : FB w fb kb v) : w.cell? ⟨fb, 0, none⟩ = some (.int .i64 4) ∧ w.cell? ⟨fb, 1, none⟩ = some (.int .i64 0) ∧ w.cell? ⟨fb, 2, none⟩ = some (.int .i64 0) ∧ w.cell? ⟨fb, 3, none⟩ = some (.slice none 0 0) ∧ w.cell? ⟨fb, 4, none⟩ = some (.int .i64 0) ∧ w.cell? ⟨fb, 5, none⟩ = some (.int .u32 0) ∧ w.cell? ⟨fb, 6, none⟩ = some (.int .i64 0) ∧ w.cell? ⟨fb, 7, none⟩ = some (.int .i64 0) ∧ w.cell? ⟨fb, 8, none⟩ = some (.int .i64 0) ∧ w.cell? ⟨fb, 9, none⟩ = some (.bool false) ∧ w.cell? ⟨fb, 10, none⟩ = some (.int .i64 0) ∧ w.cell? ⟨fb, 11, none⟩ = some (v) ∧ w.cell? ⟨kb, 0, none⟩ = some (.bool true) ∧ w.cell? ⟨kb, 1, none⟩ = some (.bool false) ∧ w.cell? ⟨kb, 2, none⟩ = some (.bool false) ∧ w.cell? ⟨kb, 3, none⟩ = some (.func (.func 87) #[] #[]) ∧ w.cell? ⟨kb, 4, none⟩ = some (.func (.func 88) #[] #[]) ∧ w.cell? ⟨kb, 5, none⟩ = some (.func (.func 89) #[] #[]) ∧ w.cell? ⟨kb, 6, none⟩ = some (.func (.func 90) #[] #[]) := ⟨(Blk.cell h.1 0).trans rfl, (Blk.cell h.1 1).trans rfl, (Blk.cell h.1 2).trans rfl, (Blk.cell h.1 3).trans rfl, (Blk.cell h.1 4).trans rfl, (Blk.cell h.1 5).trans rfl, (Blk.cell h.1 6).trans rfl, (Blk.cell h.1 7).trans rfl, (Blk.cell h.1 8).trans rfl, (Blk.cell h.1 9).trans rfl, (Blk.cell h.1 10).trans rfl, (Blk.cell h.1 11).trans rfl, (Blk.cell h.2 0).trans rfl, (Blk.cell h.2 1).trans rfl, (Blk.cell h.2 2).trans rfl, (Blk.cell h.2 3).trans rfl, (Blk.cell h.2 4).trans rfl, (Blk.cell h.2 5).trans rfl, (Blk.cell h.2 6).trans rfl⟩
theorem FB.kept {w w1 : World} {F : Nat → Prop} {fb kb : Nat} {v : Value} (h : FB w fb kb v) (k : Kept F w w1) (h1 : ¬ F fb) (h2 : ¬ F kb) : FB w1 fb kb v := ⟨h.1.kept k h1, h.2.kept k h2⟩

/-- A frame's bytes. -/
def Written (w : World) (e : Ending) (w' : World) : Prop := ∃ v n cs, e = .returned (.tuple #[v, .int .i64 0]) ∧ RY w' v n cs ∧ 9 ≤ n ∧ n ≤ 7000 ∧ (∀ q, v.ownBlock = some q → w.heap.size ≤ q) ∧ Kept (fun _ => False) w w'
set_option maxHeartbeats 4000000 in
set_option maxRecDepth 100000 in
theorem frame_Write {w : World} {v : Value} {L : List (Int × Int)} (h : SS w v L) (hn0 : 1 ≤ L.length) (hn : L.length ≤ 1000) (hid : ∀ x ∈ L, 0 ≤ x.1 ∧ x.1 < 65536) :
    Calls Tryz.prog 48 #[.agg #[.int .i64 4, .int .i64 0, .int .i64 0, .slice none 0 0, .int .i64 0, .int .u32 0, .int .i64 0, .int .i64 0, .int .i64 0, .bool false, .int .i64 0, v]] w (Written w) := by
  obtain ⟨ao, cap, rfl, hao⟩ := RS.form h
  have bA := Blk.new w 116 #[.int .i64 4, .int .i64 0, .int .i64 0, .slice none 0 0, .int .i64 0, .int .u32 0, .int .i64 0, .int .i64 0, .int .i64 0, .bool false, .int .i64 0, .slice ao L.length cap]
  have kA : Kept (fun _ => False) w (w.alloc (.cells #[.int .i64 4, .int .i64 0, .int .i64 0, .slice none 0 0, .int .i64 0, .int .u32 0, .int .i64 0, .int .i64 0, .int .i64 0, .bool false, .int .i64 0, .slice ao L.length cap] 116)) := (Kept.refl _ _).alloc _
  have HS := Lib.hid h
  have HID := Lib.hid hid
  have HBA := Lib.hid bA
  have HKA := Lib.hid kA
  clear h hid bA kA hao
  go_enter Tryz.func48, Tryz.ntmps48
  go_wp2_with (first | (go_at_call 55; refine (frame_Known _).mono ?_; rintro e w' ⟨rfl, rfl⟩) | (go_at_call 56; refine (frame_id _).mono ?_; rintro e w' ⟨rfl, rfl⟩))
  refine (frame_kinds _).mono ?_
  rintro e w1 ⟨rfl, k1⟩
  have HFB1 := Lib.hid (show FB (w1.alloc (.cells #[.bool true, .bool false, .bool false, .func (.func 87) #[] #[], .func (.func 88) #[] #[], .func (.func 89) #[] #[], .func (.func 90) #[] #[]] 144)) w.heap.size w1.heap.size (.slice ao L.length cap) from ⟨(HBA.out.kept k1 (fun x => x)).alloc _, Blk.new _ _ _⟩)
  have HK1 := Lib.hid ((HKA.out.trans k1).alloc (.cells #[.bool true, .bool false, .bool false, .func (.func 87) #[] #[], .func (.func 88) #[] #[], .func (.func 89) #[] #[], .func (.func 90) #[] #[]] 144))
  clear k1
  obtain ⟨c0, c1, c2, c3, c4, c5, c6, c7, c8, c9, c10, c11, d0, d1, d2, d3, d4, d5, d6⟩ := HFB1.out.facts
  go_wp2_with fail
  refine (frame_right _).mono ?_
  rintro e w2 ⟨rfl, k2⟩
  have HFB2 := Lib.hid (HFB1.out.kept k2 (fun x => x) (fun x => x))
  have HK2 := Lib.hid (HK1.out.trans k2)
  have hmay := frame_maySets (RS.kept HS.out HK2.out (fun _ _ x => x) : SS w2 _ L) hn HID.out
  have HMAY := Lib.hid hmay
  clear k2 hmay c0 c1 c2 c3 c4 c5 c6 c7 c8 c9 c10 c11 d0 d1 d2 d3 d4 d5 d6
  obtain ⟨c0, c1, c2, c3, c4, c5, c6, c7, c8, c9, c10, c11, d0, d1, d2, d3, d4, d5, d6⟩ := HFB2.out.facts
  go_wp2_with fail
  refine HMAY.out.mono ?_
  rintro e w3 ⟨rfl, k3⟩
  have HFB3 := Lib.hid (HFB2.out.kept k3 (fun x => x) (fun x => x))
  have HK3 := Lib.hid (HK2.out.trans k3)
  clear k3 c0 c1 c2 c3 c4 c5 c6 c7 c8 c9 c10 c11 d0 d1 d2 d3 d4 d5 d6
  obtain ⟨c0, c1, c2, c3, c4, c5, c6, c7, c8, c9, c10, c11, d0, d1, d2, d3, d4, d5, d6⟩ := HFB3.out.facts
  go_wp2_with fail
  refine (frame_weighted _ ⟨_, _, _, rfl⟩ _).mono ?_
  rintro e w4 ⟨rfl, k4⟩
  have HFB4 := Lib.hid (HFB3.out.kept k4 (fun x => x) (fun x => x))
  have HK4 := Lib.hid (HK3.out.trans k4)
  clear k4 c0 c1 c2 c3 c4 c5 c6 c7 c8 c9 c10 c11 d0 d1 d2 d3 d4 d5 d6
  obtain ⟨c0, c1, c2, c3, c4, c5, c6, c7, c8, c9, c10, c11, d0, d1, d2, d3, d4, d5, d6⟩ := HFB4.out.facts
  go_wp2_with fail
  refine (frame_weighted _ ⟨_, _, _, rfl⟩ _).mono ?_
  rintro e w5 ⟨rfl, k5⟩
  have HFB5 := Lib.hid (HFB4.out.kept k5 (fun x => x) (fun x => x))
  have HK5 := Lib.hid (HK4.out.trans k5)
  have hput := frame_putSets (RS.kept HS.out HK5.out (fun _ _ x => x) : SS w5 _ L) hn HID.out
  obtain ⟨nn, hnn⟩ : ∃ nn, nn = 6 * L.length := ⟨_, rfl⟩
  rw [← hnn] at hput
  have n6 : 6 ≤ nn := by omega
  have n7 : nn ≤ 6000 := by omega
  have HPUT := Lib.hid hput
  clear k5 hput hnn c0 c1 c2 c3 c4 c5 c6 c7 c8 c9 c10 c11 d0 d1 d2 d3 d4 d5 d6
  obtain ⟨c0, c1, c2, c3, c4, c5, c6, c7, c8, c9, c10, c11, d0, d1, d2, d3, d4, d5, d6⟩ := HFB5.out.facts
  go_wp2_with fail
  refine HPUT.out.mono ?_
  rintro e w6 ⟨v6, cs6, rfl, hy6, ho6, k6⟩
  have HFB6 := Lib.hid (HFB5.out.kept k6 (fun x => x) (fun x => x))
  have HK6 := Lib.hid (HK5.out.trans k6)
  rcases hy6.form with ⟨_, h0, _⟩ | ⟨g6, cap6, rfl, hg6, hc6⟩
  · omega
  have HC6 := Lib.hid hc6
  have HY6 := Lib.hid hy6
  have s5 := HK5.out.size
  have hg60 : w.heap.size ≤ g6 := by have := ho6 g6 rfl; omega
  clear k6 hc6 hy6 ho6 c0 c1 c2 c3 c4 c5 c6 c7 c8 c9 c10 c11 d0 d1 d2 d3 d4 d5 d6
  go_wp2_with (at_builtin; refine wpList_pushB rfl _ _ _ rfl _ 0 [] rfl (RY.nil _) g6 0 nn cap6 cs6 rfl HY6.out.len HY6.out.2 (fun j u hu => by rw [Nat.zero_add]; exact HC6.out j u hu) (by omega) ?_)
  intro v7 w7 y7 q7 o7
  have k7 : Kept (fun _ => False) w6 w7 := q7.mono (fun i _ e => by simp [Value.ownBlock] at e)
  rcases y7.form with ⟨_, h0, _⟩ | ⟨g7, cap7, rfl, hg7, hc7⟩
  · omega
  have HFB7 := Lib.hid (HFB6.out.kept k7 (fun x => x) (fun x => x))
  have HK7 := Lib.hid (HK6.out.trans k7)
  have HY7 := Lib.hid y7
  have s6 := HK6.out.size
  have hg70 : w.heap.size ≤ g7 := by
    rcases o7 g7 rfl with h | h
    · simp [Value.ownBlock] at h
    · omega
  clear y7 q7 o7 k7 hc7
  go_wp2_with fail
  refine (field_Put24 nn _ (by omega) (by omega)).mono ?_
  rintro e w8 ⟨b8, i8, cs8, rfl, hl8, hb8, hc8, hn8, k8⟩
  have HFB8 := Lib.hid (HFB7.out.kept k8 (fun x => x) (fun x => x))
  have HK8 := Lib.hid (HK7.out.trans k8)
  have HY8 := Lib.hid (HY7.out.kept k8 (fun _ _ x => x))
  have HL8 := Lib.hid hl8
  have HB8 := Lib.hid hb8
  have HC8 := Lib.hid hc8
  have hg78 : g7 < w8.heap.size := by have := k8.size; omega
  clear k8 hl8 hb8 hc8 hg7 hg6
  obtain ⟨c0, c1, c2, c3, c4, c5, c6, c7, c8, c9, c10, c11, d0, d1, d2, d3, d4, d5, d6⟩ := HFB8.out.facts
  go_wp2_with (at_builtin; refine wpList_growB rfl _ _ _ rfl b8 i8 3 cs8 rfl HL8.out HB8.out (fun j u hu => (Kept.cell_ ((Kept.refl (fun _ => False) _).alloc _) (cell_lt_ (HC8.out j u hu))).trans (HC8.out j u hu)) w8.heap.size 0 2 2 [.int .u8 4, .int .u8 0] rfl rfl (by omega) (by simp [ByteCells]) (fun j u hu => bytes_cells j u hu) (by omega) ?_)
  intro v9 w9 y9 q9 o9
  rcases y9.form with ⟨_, h0, _⟩ | ⟨g9, cap9, rfl, hg9, hc9⟩
  · omega
  have hg90 : w8.heap.size ≤ g9 := by have := o9 g9 rfl; (try simp at this); omega
  have k9 : Kept (fun _ => False) w8 w9 := ((Kept.refl _ _).alloc _).trans q9
  have HFB9 := Lib.hid (HFB8.out.kept k9 (fun x => x) (fun x => x))
  have HK9 := Lib.hid (HK8.out.trans k9)
  have HY79 := Lib.hid (HY8.out.kept k9 (fun _ _ x => x))
  have HY9 := Lib.hid y9
  have HO9 := Lib.hid o9
  clear q9 k9 y9 o9 hc9 hg9 c0 c1 c2 c3 c4 c5 c6 c7 c8 c9 c10 c11 d0 d1 d2 d3 d4 d5 d6
  obtain ⟨c0, c1, c2, c3, c4, c5, c6, c7, c8, c9, c10, c11, d0, d1, d2, d3, d4, d5, d6⟩ := HFB9.out.facts
  go_wp2_with fail
  refine (frame_four 0 _ (by omega) (by omega)).mono ?_
  rintro e w10 ⟨b10, i10, cs10, rfl, hl10, hb10, hc10, hn10, k10⟩
  have HK10 := Lib.hid (HK9.out.trans k10)
  have HY710 := Lib.hid (HY79.out.kept k10 (fun _ _ x => x))
  have HY910 := Lib.hid (HY9.out.kept k10 (fun _ _ x => x))
  have HL10 := Lib.hid hl10
  have HB10 := Lib.hid hb10
  have HC10 := Lib.hid hc10
  have s10 := k10.size
  clear k10 hl10 hb10 hc10 c0 c1 c2 c3 c4 c5 c6 c7 c8 c9 c10 c11 d0 d1 d2 d3 d4 d5 d6
  go_wp2_with (at_builtin; refine wpList_pushB rfl _ _ _ rfl (.slice (some ⟨g9, 0, none⟩) 5 cap9) 5 (cs8 ++ [.int .u8 4, .int .u8 0]) rfl HY910.out b10 i10 4 4 cs10 rfl HL10.out HB10.out (fun j u hu => HC10.out j u hu) (by omega) ?_)
  intro v11 w11 y11 q11 o11
  rcases y11.form with ⟨_, h0, _⟩ | ⟨g11, cap11, rfl, hg11, hc11⟩
  · omega
  have hne : g7 ≠ g9 := by omega
  have HY711 := Lib.hid (HY710.out.kept q11 (fun q hq e => hne (by
    simp [Value.ownBlock] at hq e
    omega)))
  rcases HY711.out.form with ⟨h0, _⟩ | ⟨g7', cap7', h7, _, hc7⟩
  · cases h0
  have h77 : g7' = g7 := by injection h7 with h _ _; injection h with h; injection h with h; exact h.symm
  subst h77
  have HC7 := Lib.hid hc7
  have s9 := HK9.out.size
  have HK11 := Lib.hid (HK10.out.trans' q11 (fun q hq e => by simp [Value.ownBlock] at e; have := HK8.out.size; omega))
  have HY11 := Lib.hid y11
  have ho11 : g11 = g9 ∨ w10.heap.size ≤ g11 := by
    rcases o11 g11 rfl with h | h
    · simp [Value.ownBlock] at h; exact .inl h.symm
    · exact .inr h
  have s8 := HK8.out.size
  have sz10 := HK10.out.size
  have HO11 := Lib.hid ho11
  clear y11 q11 o11 hc7 h7 hc11 hg11 ho11
  go_wp2_with (at_builtin; refine wpList_pushB rfl _ _ _ rfl (.slice (some ⟨g11, 0, none⟩) 9 cap11) 9 _ rfl HY11.out g7' 0 nn cap7 cs6 rfl HY711.out.len HY711.out.2 (fun j u hu => by rw [Nat.zero_add]; exact HC7.out j u hu) (by omega) ?_)
  intro v12 w12 y12 q12 o12
  have hk := HK11.out.trans' q12 (fun q hq e => by
    simp [Value.ownBlock] at e
    rcases HO11.out with h | h <;> omega)
  have HY12 := Lib.hid y12
  have HO12 := Lib.hid o12
  have HKE := Lib.hid hk
  clear y12 q12 o12 hk
  go_wp2_with fail
  go_ret2
  refine ⟨v12, _, _, rfl, HY12.out, by omega, by omega, fun q hq => ?_, HKE.out⟩
  rcases HO12.out q hq with h | h
  · simp [Value.ownBlock] at h
    rcases HO11.out with h' | h' <;> omega
  · have := HK11.out.size; omega
end Go.Proofs.YtchgieogdinglaaGreat
