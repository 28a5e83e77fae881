/- ConnSetups: greetings. -/
import Derived.Test.YtchgieogdinglaaGreatCsH
set_option linter.unusedSimpArgs false
set_option linter.unusedVariables false
namespace Go.Proofs.YtchgieogdinglaaGreat
open Go.RowKit
open Ser

theorem RY.rs {w : World} {v : Value} {n : Nat} {cs : List Value} (h : RY w v n cs) : RS 5 1 (fun u : Value => [u]) w v cs := by
  have h1 := h.1
  have hl := h.len
  unfold RS
  rw [hl, List.flatMap_singleton']
  exact h1
theorem RY.push {w w' : World} {v lv : Value} {n : Nat} {cs : List Value} {L : List (Int × Int)} (h : RY w v n cs) (l : SS w lv L) (k : Kept (fun q => lv.ownBlock = some q) w w') : RY w' v n cs :=
  h.kept k (fun b hb e => RS.ne_row h.rs l (by decide) b hb e)
theorem RY.laid (w : World) (M : List Value) (hM : M.length ≤ 1000) (hb : ByteCells M) : RY (w.alloc (.cells M.toArray 5)) (.slice (some ⟨w.heap.size, 0, none⟩) M.length M.length) M.length M :=
  ⟨⟨by simp, .inr ⟨w.heap.size, M.length, M.toArray, rfl, Nat.zero_le _, heap_alloc_new w _, Nat.le_refl _, by unfold maxLen; omega, by simp, by rw [List.take_of_length_le (by simp)]⟩⟩, hb⟩

theorem conn_set (id n : Int) (w : World) : Calls Tryz.prog 33 #[.int .i64 id, .int .i64 n] w fun e w' => (∃ x, e = .returned (.agg #[.int .i64 id, .int .u32 x])) ∧ Kept (fun _ => False) w w' := by
  go_enter Tryz.func33, Tryz.ntmps33
  go_wp2_with fail
  refine bodyPost_ret (v := .agg #[.int .i64 id, .int .u32 (n % 4294967296)]) (by simp [results, Tryz.results33, go_sem]) rfl ⟨⟨_, rfl⟩, (Kept.refl _ _).alloc _⟩

def Box (sv : Bool) (st wi fr li ta qu : Int) : Array Value := #[.bool sv, .int .i64 st, .int .i64 wi, .int .i64 fr, .int .i64 li, .int .i64 ta, .int .i64 qu]
/-- A connection that greets: its block, the copy of its setup, its settings, the list so far. -/
structure GS (w0 W : World) (cb : Nat) (cs : Array Value) (tb : Nat) (sv : Bool) (st wi fr li ta qu : Int) (sb smb : Nat) (lv : Value) (L : List (Int × Int)) : Prop where
  c : Blk W cb 47 cs
  t : Blk W tb 23 (Box sv st wi fr li ta qu)
  s : Blk W sb 74 #[.map (some smb), .slice none 0 0]
  l : SS W lv L
  own : ∀ q, lv.ownBlock = some q → w0.heap.size ≤ q
  k : Kept (· = cb) w0 W
section
variable {w0 W W' : World} {cb : Nat} {cs : Array Value} {tb : Nat} {sv : Bool} {st wi fr li ta qu : Int} {sb smb : Nat} {lv lv' : Value} {L L' : List (Int × Int)}
theorem GS.step (g : GS w0 W cb cs tb sv st wi fr li ta qu sb smb lv L) (k : Kept (fun _ => False) W W') : GS w0 W' cb cs tb sv st wi fr li ta qu sb smb lv L :=
  ⟨g.c.kept k (fun x => x), g.t.kept k (fun x => x), g.s.kept k (fun x => x), RS.kept g.l k (fun _ _ x => x), g.own, g.k.trans (k.mono (fun _ _ x => x.elim))⟩
theorem GS.push (g : GS w0 W cb cs tb sv st wi fr li ta qu sb smb lv L) (h : SS W' lv' L') (k : Kept (fun q => lv.ownBlock = some q) W W') (o : ∀ q, lv'.ownBlock = some q → lv.ownBlock = some q ∨ W.heap.size ≤ q) : GS w0 W' cb cs tb sv st wi fr li ta qu sb smb lv' L' :=
  ⟨g.c.kept k (fun e => RS.ne_blk g.l g.c (by decide) e), g.t.kept k (fun e => RS.ne_blk g.l g.t (by decide) e), g.s.kept k (fun e => RS.ne_blk g.l g.s (by decide) e), h, fun q hq => by
    rcases o q hq with h | h
    · exact g.own q h
    · have := g.k.size; omega, g.k.trans' k (fun q hq e => by have := g.own q e; omega)⟩
theorem GS.setc (g : GS w0 W cb cs tb sv st wi fr li ta qu sb smb lv L) (i : Nat) (u : Value) : GS w0 (W.setCell ⟨cb, i, none⟩ u) cb (cs.setIfInBounds i u) tb sv st wi fr li ta qu sb smb lv L := by
  have h1 : tb ≠ cb := Blk.ne_ g.t g.c (by decide)
  have h2 : sb ≠ cb := Blk.ne_ g.s g.c (by decide)
  have k : Kept (· = cb) W (W.setCell ⟨cb, i, none⟩ u) := Kept.put (Kept.refl _ _) u
  exact ⟨g.c.set_ i u, g.t.kept k h1, g.s.kept k h2, RS.kept g.l k (fun q hq e => RS.ne_blk g.l g.c (by decide) (by rw [hq, e])), g.own, g.k.trans k⟩
theorem GS.box (g : GS w0 W cb cs tb sv st wi fr li ta qu sb smb lv L) : W.cell? ⟨tb, 0, none⟩ = some (.bool sv) ∧ W.cell? ⟨tb, 1, none⟩ = some (.int .i64 st) ∧ W.cell? ⟨tb, 2, none⟩ = some (.int .i64 wi) ∧ W.cell? ⟨tb, 3, none⟩ = some (.int .i64 fr) ∧ W.cell? ⟨tb, 4, none⟩ = some (.int .i64 li) ∧ W.cell? ⟨tb, 5, none⟩ = some (.int .i64 ta) :=
  ⟨(Blk.cell g.t 0).trans rfl, (Blk.cell g.t 1).trans rfl, (Blk.cell g.t 2).trans rfl, (Blk.cell g.t 3).trans rfl, (Blk.cell g.t 4).trans rfl, (Blk.cell g.t 5).trans rfl⟩
/-- A list of settings that a call has laid. -/
theorem SS.laid (w : World) (M : List (Int × Int)) (hM : M.length ≤ 1000) : SS (w.alloc (.cells (M.flatMap sEnc).toArray 110)) (.slice (some ⟨w.heap.size, 0, none⟩) M.length M.length) M := by
  have hl := flat_len sEnc 2 (fun _ => rfl) M
  refine ⟨hl, .inr ⟨w.heap.size, M.length, (M.flatMap sEnc).toArray, rfl, Nat.zero_le _, heap_alloc_new w _, Nat.le_refl _, by unfold maxLen; omega, by simpa using hl, ?_⟩⟩
  rw [List.take_of_length_le (by simp [hl])]
theorem laid_cells (w : World) (M : List (Int × Int)) (j : Nat) (u : Value) (hu : (M.flatMap sEnc)[j]? = some u) : (w.alloc (.cells (M.flatMap sEnc).toArray 110)).cell? ⟨w.heap.size, j, none⟩ = some u := by
  rw [Blk.cell (Blk.new w _ _)]
  simpa using hu
end
end Go.Proofs.YtchgieogdinglaaGreat
