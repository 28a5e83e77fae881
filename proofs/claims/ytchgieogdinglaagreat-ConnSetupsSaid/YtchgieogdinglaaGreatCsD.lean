/- ConnSetups: a frame of settings: whether it may be; its bytes. -/
import Derived.Test.YtchgieogdinglaaGreatCsC
set_option linter.unusedSimpArgs false
set_option linter.unusedVariables false
namespace Go.Proofs.YtchgieogdinglaaGreat
open Go.RowKit
open Ser

theorem cell_lt_ {w : World} {p : Addr} {v : Value} (h : w.cell? p = some v) : p.block < w.heap.size := by
  rcases Nat.lt_or_ge p.block w.heap.size with h1 | h1
  · exact h1
  · have h2 : w.heap[p.block]? = none := Array.getElem?_eq_none h1
    simp [World.cell?, h2] at h
theorem Kept.cell_ {F : Nat → Prop} {w w1 : World} (k : Kept F w w1) {p : Addr} (h : p.block < w.heap.size) (hF : ¬ F p.block := by exact fun x => x) : w1.cell? p = w.cell? p := World.cell?_of_block (k.block p.block h hF)

/-- A row of bytes that is owned. -/
def RY (w : World) (v : Value) (n : Nat) (cs : List Value) : Prop := w.ownsRow 0 5 1 v n cs ∧ ByteCells cs
section
variable {w w1 : World} {v : Value} {n : Nat} {cs : List Value} {F : Nat → Prop}
theorem RY.nil (w : World) : RY w (.slice none 0 0) 0 [] := ⟨World.ownsRow_nil w 0 _ 1, fun u hu => by cases hu⟩
theorem RY.form (h : RY w v n cs) : (v = .slice none 0 0 ∧ n = 0 ∧ cs = []) ∨ ∃ g cap, v = .slice (some ⟨g, 0, none⟩) n cap ∧ g < w.heap.size ∧ ∀ j u, cs[j]? = some u → w.cell? ⟨g, j, none⟩ = some u := by
  rcases h.1.2 with ⟨e1, e2⟩ | ⟨g, cap, cur, e, _, hg, _⟩
  · refine .inl ⟨e1, e2, ?_⟩
    have := h.1.1
    subst e2
    exact List.eq_nil_of_length_eq_zero (by simpa using this)
  · subst e
    refine .inr ⟨g, cap, rfl, (Array.getElem?_eq_some_iff.1 hg).1, fun j u hu => ?_⟩
    have h1 := h.1.cells (g := g) rfl j u hu
    rwa [Addr.add_lit, Nat.zero_add] at h1
theorem RY.len (h : RY w v n cs) : cs.length = n := by have := h.1.1; omega
theorem RY.lt (h : RY w v n cs) (k : Nat) (hk : v.ownBlock = some k) : k < w.heap.size := (h.1.lt k hk).2
theorem RY.kept (h : RY w v n cs) (k : Kept F w w1) (hv : ∀ b, v.ownBlock = some b → ¬ F b) : RY w1 v n cs := by
  refine ⟨⟨h.1.1, ?_⟩, h.2⟩
  rcases h.1.2 with hn | ⟨g, cap, cur, rfl, hb, hg, rest⟩
  · exact .inl hn
  · refine .inr ⟨g, cap, cur, rfl, hb, ?_, rest⟩
    rw [k.block g (Array.getElem?_eq_some_iff.1 hg).1 (hv g rfl)]
    exact hg
end

section
variable {o : Oper} {a : Act} {K : Act → World → Prop} {Q : Exit → Act → World → Prop}
/-- Bytes are appended to a row of bytes. -/
theorem wp_pushB (w : World) (s x : Operand) (ho : o.op = .call { callee := .builtin .append, args := #[s, x], argTypes := #[44, 44] })
    (v : Value) (n : Nat) (xs : List Value) (hs : a.eval s = v) (hown : RY w v n xs) (b i m c : Nat) (cs : List Value) (hx : a.eval x = .slice (some ⟨b, i, none⟩) m c) (hl : cs.length = m)
    (hb : ByteCells cs) (hc : ∀ j u, cs[j]? = some u → w.cell? ⟨b, i + j, none⟩ = some u) (hn : n + m ≤ 1000000)
    (h : ∀ v' w', RY w' v' (n + m) (xs ++ cs) → Kept (fun q => v.ownBlock = some q) w w' → (∀ k, v'.ownBlock = some k → v.ownBlock = some k ∨ w.heap.size ≤ k) → K (a.put o.dst v') w') : o.wp Tryz.prog a w K Q := by
  obtain ⟨i0, hi, hz0, hz1, hz2⟩ := info_parts (P := Tryz.prog) (e := 5) (z := .int .u8 0) (size := 1) (bytes := 1) (by kernel_rfl)
  refine wp_push w s x 44 ho 5 i0 (.int .u8 0) 1 1 Tryz.underlying44 hi hz0 hz1 hz2 rfl (by decide) v n xs hs hown.1 ⟨b, i, none⟩ m c cs hx (by omega) (fun j u hu => by rw [Addr.add_lit]; exact hc j u hu) hb.one (by unfold maxLen; omega) (by omega) fun v' w' p => ?_
  refine h v' w' ⟨p.own, fun u hu => ?_⟩ ((Kept.refl _ _).grown p.grown (fun k hk _ => hk)) p.where_
  rcases List.mem_append.1 hu with hu | hu
  · exact hown.2 u hu
  · exact hb u hu
theorem wpList_pushB {ops : Array Oper} {rest : List Oper} (hgd : o.guard = none) (w : World) (s x : Operand) (ho : o.op = .call { callee := .builtin .append, args := #[s, x], argTypes := #[44, 44] })
    (v : Value) (n : Nat) (xs : List Value) (hs : a.eval s = v) (hown : RY w v n xs) (b i m c : Nat) (cs : List Value) (hx : a.eval x = .slice (some ⟨b, i, none⟩) m c) (hl : cs.length = m)
    (hb : ByteCells cs) (hc : ∀ j u, cs[j]? = some u → w.cell? ⟨b, i + j, none⟩ = some u) (hn : n + m ≤ 1000000)
    (h : ∀ v' w', RY w' v' (n + m) (xs ++ cs) → Kept (fun q => v.ownBlock = some q) w w' → (∀ k, v'.ownBlock = some k → v.ownBlock = some k ∨ w.heap.size ≤ k) → wpList Tryz.prog ops Q rest (a.put o.dst v') w') : wpList Tryz.prog ops Q (o :: rest) a w :=
  wpList_plain hgd fun _ hK => wp_pushB w s x ho v n xs hs hown b i m c cs hx hl hb hc hn fun v' w' h1 h2 h3 => hK _ _ (h v' w' h1 h2 h3)
end

/-- A row of settings. -/
def sEnc (x : Int × Int) : List Value := [.int .i64 x.1, .int .u32 x.2]
def SS (w : World) (v : Value) (L : List (Int × Int)) : Prop := RS 110 2 sEnc w v L
theorem SS.cells {w : World} {g cap n : Nat} {L : List (Int × Int)} (h : SS w (.slice (some ⟨g, 0, none⟩) n cap) L) {k : Nat} {x : Int × Int} (hx : L[k]? = some x) : w.cell? ⟨g, k * 2, none⟩ = some (.int .i64 x.1) ∧ w.cell? ⟨g, k * 2 + 1, none⟩ = some (.int .u32 x.2) := by
  obtain ⟨hk, rfl⟩ := List.getElem?_eq_some_iff.1 hx
  exact ⟨RS.cell (enc := sEnc) (m := 2) (fun _ => rfl) h k 0 hk (by omega) _ rfl, RS.cell (enc := sEnc) (m := 2) (fun _ => rfl) h k 1 hk (by omega) _ rfl⟩
/-- A frame of settings. -/
def FrameOf (v : Value) : Array Value := #[.int .i64 4, .int .i64 0, .int .i64 0, .slice none 0 0, .int .i64 0, .int .u32 0, .int .i64 0, .int .i64 0, .int .i64 0, .bool false, .int .i64 0, v]
def MayR (w : World) (n : Nat) (i : Value) (wr : World) : Prop := ∃ k : Nat, k ≤ n ∧ i = .int .i64 k ∧ Kept (fun _ => False) w wr

set_option maxHeartbeats 1000000 in
theorem frame_maySets {w : World} {v : Value} {L : List (Int × Int)} (h : SS w v L) (hn : L.length ≤ 1000) (hid : ∀ x ∈ L, 0 ≤ x.1 ∧ x.1 < 65536) :
    Calls Tryz.prog 88 #[.agg #[.int .i64 4, .int .i64 0, .int .i64 0, .slice none 0 0, .int .i64 0, .int .u32 0, .int .i64 0, .int .i64 0, .int .i64 0, .bool false, .int .i64 0, v]] w fun e w' => e = .returned (.bool true) ∧ Kept (fun _ => False) w w' := by
  obtain ⟨ao, cap, rfl, hao⟩ := RS.form h
  have kA : Kept (fun _ => False) w (w.alloc (.cells #[.int .i64 4, .int .i64 0, .int .i64 0, .slice none 0 0, .int .i64 0, .int .u32 0, .int .i64 0, .int .i64 0, .int .i64 0, .bool false, .int .i64 0, .slice ao L.length cap] 116)) := (Kept.refl _ _).alloc _
  have bA := Blk.new w 116 #[.int .i64 4, .int .i64 0, .int .i64 0, .slice none 0 0, .int .i64 0, .int .u32 0, .int .i64 0, .int .i64 0, .int .i64 0, .bool false, .int .i64 0, .slice ao L.length cap]
  have HS := Lib.hid h
  have HAO := Lib.hid hao
  have HID := Lib.hid hid
  have HT := Lib.hid (show MayR (w.alloc (.cells #[.int .i64 4, .int .i64 0, .int .i64 0, .slice none 0 0, .int .i64 0, .int .u32 0, .int .i64 0, .int .i64 0, .int .i64 0, .bool false, .int .i64 0, .slice ao L.length cap] 116)) L.length (.int .i64 0) _ from ⟨0, Nat.zero_le _, rfl, Kept.refl _ _⟩)
  have HKA := Lib.hid kA
  have HBA := Lib.hid bA
  clear h hao hid kA bA
  go_enter Tryz.func88, Tryz.ntmps88
  go_wp2_with fail
  go_loopw [8] (MayR (w.alloc (.cells #[.int .i64 4, .int .i64 0, .int .i64 0, .slice none 0 0, .int .i64 0, .int .u32 0, .int .i64 0, .int .i64 0, .int .i64 0, .bool false, .int .i64 0, .slice ao L.length cap] 116)) L.length) (fun i _ => L.length - (intOf i).toNat)
  case atStart => exact HT.out
  obtain ⟨k, hk, rfl, hkk⟩ := hrel
  have HKK := Lib.hid hkk
  clear hkk
  rcases Nat.lt_or_ge k L.length with hlt | hge
  · obtain ⟨g, rfl⟩ := HAO.out (by omega)
    obtain ⟨x, hx⟩ : ∃ x, L[k]? = some x := ⟨_, List.getElem?_eq_getElem hlt⟩
    obtain ⟨c0, c1⟩ := SS.cells ((RS.kept (RS.kept HS.out HKA.out (fun _ _ x => x)) HKK.out (fun _ _ x => x)) : SS wr _ L) hx
    have hr := HID.out x (List.mem_of_getElem? hx)
    have g0 : decide (x.1 < 0) = false := by simpa using hr.1
    have g1 : decide (65536 ≤ x.1) = false := by simpa using hr.2
    obtain ⟨x1, x2⟩ := x
    clear hx hr
    go_wp2_with fail
    go_roundw
    case rel => exact ⟨k + 1, hlt, by simp, HKK.out.alloc _⟩
    case measure => simp [intOf]; omega
  · obtain rfl : k = L.length := by omega
    have b0 := (Blk.cell (HBA.out.kept HKK.out (fun x => x)) 11).trans rfl
    have b1 := (Blk.cell (HBA.out.kept HKK.out (fun x => x)) 1).trans rfl
    clear hge
    by_cases hz : L.length = 0
    · have z0 : ((L.length : Int) == 0) = true := by simpa using hz
      clear hz
      go_wp2_with fail
      go_ret
      exact ⟨rfl, HKA.out.trans HKK.out⟩
    · have z0 : ((L.length : Int) == 0) = false := by simpa using hz
      clear hz
      go_wp2_with fail
      go_ret
      exact ⟨rfl, HKA.out.trans HKK.out⟩
end Go.Proofs.YtchgieogdinglaaGreat
