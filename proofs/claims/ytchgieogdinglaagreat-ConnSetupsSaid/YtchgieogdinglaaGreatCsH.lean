/- ConnSetups: a connection writes; it greets. -/
import Derived.Test.YtchgieogdinglaaGreatCsG
set_option linter.unusedSimpArgs false
set_option linter.unusedVariables false
namespace Go.Proofs.YtchgieogdinglaaGreat
open Go.RowKit
open Ser

theorem RY.ne_blk {w : World} {v : Value} {n : Nat} {cs : List Value} {b : Nat} {t : TypeId} {c2 : Array Value} (h : RY w v n cs) (hb : Blk w b t c2) (ht : 5 ≠ t) : v.ownBlock ≠ some b := RS.ne_blk (enc := fun u : Value => [u]) (m := 1) (L := cs) (by
  have h1 := h.1
  have hl := h.len
  unfold RS
  rw [hl, List.flatMap_singleton']
  exact h1) hb ht

/-- What a connection that has written has done. -/
def ConnWrote (w : World) (cb : Nat) (cs : Array Value) (wv : Value) (n : Nat) (e : Ending) (w' : World) : Prop :=
  ∃ wv' n' ys', e = .returned (.tuple #[]) ∧ Blk w' cb 47 (cs.setIfInBounds 17 wv') ∧ RY w' wv' n' ys' ∧ n < n' ∧ n' ≤ 8000 ∧ Kept (fun q => q = cb ∨ wv.ownBlock = some q) w w' ∧ (∀ q, wv'.ownBlock = some q → wv.ownBlock = some q ∨ w.heap.size ≤ q)
/-- Bytes of a constant, laid in a block of their own, which is marked. -/
structure Marked (w : World) (b n : Nat) (ys : List Value) : Prop where
  at_ : w.heap[b]? = some (.cells ys.toArray 5 (n, n + 1))
  len : ys.length = n
  bytes : ByteCells ys
theorem Marked.cell {w : World} {b n : Nat} {ys : List Value} (h : Marked w b n ys) (j : Nat) (u : Value) (hu : ys[j]? = some u) : w.cell? ⟨b, j, none⟩ = some u := by
  rw [cell_of_row w b j ys.toArray 5 (n, n + 1) h.at_]
  simpa using hu
theorem Marked.kept {F : Nat → Prop} {w w1 : World} {b n : Nat} {ys : List Value} (h : Marked w b n ys) (k : Kept F w w1) (hb : ¬ F b) : Marked w1 b n ys :=
  ⟨(k.block b (Array.getElem?_eq_some_iff.1 h.at_).1 hb).trans h.at_, h.len, h.bytes⟩
theorem Marked.ne_blk {w : World} {b n : Nat} {ys : List Value} {q : Nat} {t : TypeId} {cs : Array Value} (h : Marked w b n ys) (hb : Blk w q t cs) (ht : 5 ≠ t) : b ≠ q := by
  rintro rfl
  have h1 := h.at_
  unfold Blk at hb
  rw [h1] at hb
  injection hb with hb
  injection hb with _ hb
  exact ht hb
theorem Marked.ne_row {w : World} {b n : Nat} {ys : List Value} {v : Value} {L : List (Int × Int)} (h : Marked w b n ys) (hs : SS w v L) : v.ownBlock ≠ some b := by
  rcases hs.2 with ⟨rfl, _⟩ | ⟨g, cap, cur, rfl, _, hg, _⟩
  · simp [Value.ownBlock]
  · intro e
    simp [Value.ownBlock] at e
    subst e
    rw [h.at_] at hg
    injection hg with hg
    injection hg with _ hg
    exact absurd hg (by decide)

set_option maxHeartbeats 1000000 in
set_option maxRecDepth 100000 in
theorem conn_write {w : World} {cb : Nat} {cs : Array Value} {wv : Value} {n : Nat} {ys : List Value} {v : Value} {L : List (Int × Int)} (hb : Blk w cb 47 cs) (h17 : cs[17]? = some wv) (hy : RY w wv n ys) (hnn : n ≤ 100)
    (hs : SS w v L) (hn0 : 1 ≤ L.length) (hn : L.length ≤ 1000) (hid : ∀ x ∈ L, 0 ≤ x.1 ∧ x.1 < 65536) :
    Calls Tryz.prog 35 #[.pointer (some ⟨cb, 0, none⟩), .agg #[.int .i64 4, .int .i64 0, .int .i64 0, .slice none 0 0, .int .i64 0, .int .u32 0, .int .i64 0, .int .i64 0, .int .i64 0, .bool false, .int .i64 0, v]] w (ConnWrote w cb cs wv n) := by
  obtain ⟨ao, cap, rfl, hao⟩ := RS.form hs
  have kA : Kept (fun _ => False) w (w.alloc (.cells #[.int .i64 4, .int .i64 0, .int .i64 0, .slice none 0 0, .int .i64 0, .int .u32 0, .int .i64 0, .int .i64 0, .int .i64 0, .bool false, .int .i64 0, .slice ao L.length cap] 116)) := (Kept.refl _ _).alloc _
  have hw := frame_Write (RS.kept hs kA (fun _ _ x => x) : SS _ _ L) hn0 hn hid
  have HW := Lib.hid hw
  have HB := Lib.hid hb
  have H17 := Lib.hid h17
  have HY := Lib.hid hy
  have HKA := Lib.hid kA
  clear hw hb h17 hy hs hao hid kA
  go_enter Tryz.func35, Tryz.ntmps35
  go_wp2_with fail
  refine HW.out.mono ?_
  rintro e w1 ⟨v1, n1, cs1, rfl, hy1, hn9, hn7, ho1, k1⟩
  rcases hy1.form with ⟨_, h0, _⟩ | ⟨g1, cap1, rfl, hg1, hc1⟩
  · omega
  have HK1 := Lib.hid (HKA.out.trans k1)
  have HC1 := Lib.hid hc1
  have HY1 := Lib.hid hy1
  have c17 : w1.cell? ⟨cb, 17, none⟩ = some wv := (Blk.cell (HB.out.kept HK1.out (fun x => x)) 17).trans H17.out
  have HYW := Lib.hid (HY.out.kept HK1.out (fun _ _ x => x))
  clear hy1 ho1 k1 hc1
  go_wp2_with (at_builtin; refine wpList_pushB rfl _ _ _ rfl wv n ys rfl HYW.out g1 0 n1 cap1 cs1 rfl HY1.out.len HY1.out.2 (fun j u hu => by rw [Nat.zero_add]; exact HC1.out j u hu) (by omega) ?_)
  intro v2 w2 y2 q2 o2
  rcases y2.form with ⟨_, h0, _⟩ | ⟨g2, cap2, rfl, hg2, hc2⟩
  · omega
  have b2 := (HB.out.kept HK1.out (fun x => x)).kept q2 (fun e => HYW.out.ne_blk (HB.out.kept HK1.out (fun x => x)) (by decide) e)
  have c17' : w2.cell? ⟨cb, 17, none⟩ = some wv := (Blk.cell b2 17).trans H17.out
  have f17 : w2.frozen? ⟨cb, 17, none⟩ = false := Blk.frozen b2 17
  have HB2 := Lib.hid b2
  have HY2 := Lib.hid y2
  have HQ2 := Lib.hid q2
  have HO2 := Lib.hid o2
  clear b2 y2 q2 o2 hc2 c17
  go_wp2_with fail
  go_end0
  have hne : g2 ≠ cb := fun e => HY2.out.ne_blk HB2.out (by decide) (by rw [e]; rfl)
  refine ⟨_, n + n1, _, rfl, HB2.out.set_ 17 _, HY2.out.kept (Kept.put (b := cb) (i := 17) (Kept.refl _ _) _) (fun q hq e => hne (by
    simp [Value.ownBlock] at hq
    omega)), by omega, by omega, ?_, fun q hq => ?_⟩
  · exact ((HK1.out.mono (fun _ _ x => x.elim)).trans (HQ2.out.mono (fun _ _ h => .inr h))).trans ((Kept.put (b := cb) (i := 17) (Kept.refl _ _) _).mono (fun _ _ h => .inl h))
  · rcases HO2.out q hq with h | h
    · exact .inl h
    · have := HK1.out.size; right; omega
set_option maxHeartbeats 1000000 in
set_option maxRecDepth 100000 in
theorem conn_write_marked {w : World} {cb : Nat} {cs : Array Value} {mk n : Nat} {ys : List Value} {v : Value} {L : List (Int × Int)} (hb : Blk w cb 47 cs) (h17 : cs[17]? = some (.slice (some ⟨mk, 0, none⟩) n n)) (hy : Marked w mk n ys) (hnn : n ≤ 100)
    (hs : SS w v L) (hn0 : 1 ≤ L.length) (hn : L.length ≤ 1000) (hid : ∀ x ∈ L, 0 ≤ x.1 ∧ x.1 < 65536) :
    Calls Tryz.prog 35 #[.pointer (some ⟨cb, 0, none⟩), .agg #[.int .i64 4, .int .i64 0, .int .i64 0, .slice none 0 0, .int .i64 0, .int .u32 0, .int .i64 0, .int .i64 0, .int .i64 0, .bool false, .int .i64 0, v]] w (ConnWrote w cb cs (.slice (some ⟨mk, 0, none⟩) n n) n) := by
  obtain ⟨ao, cap, rfl, hao⟩ := RS.form hs
  have kA : Kept (fun _ => False) w (w.alloc (.cells #[.int .i64 4, .int .i64 0, .int .i64 0, .slice none 0 0, .int .i64 0, .int .u32 0, .int .i64 0, .int .i64 0, .int .i64 0, .bool false, .int .i64 0, .slice ao L.length cap] 116)) := (Kept.refl _ _).alloc _
  have hw := frame_Write (RS.kept hs kA (fun _ _ x => x) : SS _ _ L) hn0 hn hid
  have HW := Lib.hid hw
  have HB := Lib.hid hb
  have H17 := Lib.hid h17
  have HY := Lib.hid hy
  have HKA := Lib.hid kA
  clear hw hb h17 hy hs hao hid kA
  go_enter Tryz.func35, Tryz.ntmps35
  go_wp2_with fail
  refine HW.out.mono ?_
  rintro e w1 ⟨v1, n1, cs1, rfl, hy1, hn9, hn7, ho1, k1⟩
  rcases hy1.form with ⟨_, h0, _⟩ | ⟨g1, cap1, rfl, hg1, hc1⟩
  · omega
  have HK1 := Lib.hid (HKA.out.trans k1)
  have HC1 := Lib.hid hc1
  have HY1 := Lib.hid hy1
  have c17 : w1.cell? ⟨cb, 17, none⟩ = some (.slice (some ⟨mk, 0, none⟩) n n) := (Blk.cell (HB.out.kept HK1.out (fun x => x)) 17).trans H17.out
  have HYW := Lib.hid (HY.out.kept HK1.out (fun x => x))
  clear hy1 ho1 k1 hc1
  go_wp2_with (at_builtin; refine wpList_growB rfl _ _ _ rfl mk 0 n ys rfl HYW.out.len HYW.out.bytes (fun j u hu => by rw [Nat.zero_add]; exact HYW.out.cell j u hu) g1 0 n1 cap1 cs1 rfl HY1.out.len (by omega) HY1.out.2 (fun j u hu => by rw [Nat.zero_add]; exact HC1.out j u hu) (by omega) ?_)
  intro v2 w2 y2 q2 o2
  rcases y2.form with ⟨_, h0, _⟩ | ⟨g2, cap2, rfl, hg2, hc2⟩
  · omega
  have b2 := (HB.out.kept HK1.out (fun x => x)).kept q2 (fun x => x)
  have c17' : w2.cell? ⟨cb, 17, none⟩ = some (.slice (some ⟨mk, 0, none⟩) n n) := (Blk.cell b2 17).trans H17.out
  have f17 : w2.frozen? ⟨cb, 17, none⟩ = false := Blk.frozen b2 17
  have HB2 := Lib.hid b2
  have HY2 := Lib.hid y2
  have HQ2 := Lib.hid q2
  have HO2 := Lib.hid o2
  clear b2 y2 q2 o2 hc2 c17
  go_wp2_with fail
  go_end0
  have hne : g2 ≠ cb := fun e => HY2.out.ne_blk HB2.out (by decide) (by rw [e]; rfl)
  refine ⟨_, n + n1, _, rfl, HB2.out.set_ 17 _, HY2.out.kept (Kept.put (b := cb) (i := 17) (Kept.refl _ _) _) (fun q hq e => hne (by
    simp [Value.ownBlock] at hq
    omega)), by omega, by omega, ?_, fun q hq => ?_⟩
  · exact ((HK1.out.mono (fun _ _ x => x.elim)).trans (HQ2.out.mono (fun _ _ h => h.elim))).trans ((Kept.put (b := cb) (i := 17) (Kept.refl _ _) _).mono (fun _ _ h => .inl h))
  · have := HO2.out q hq; have := HK1.out.size; right; omega
end Go.Proofs.YtchgieogdinglaaGreat
