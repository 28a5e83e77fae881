/- The pool in memory; none, at, in, State, and the calls that turn a backend's row alone. -/
import Derived.Test.YtchgieogdinglaaWheelT
import Derived.Test.YtchgieogdinglaaRowS
import Derived.Test.YtchgieogdinglaaHealth
set_option linter.unusedSimpArgs false
namespace Go.Proofs.Ytchgieogdinglaa
open Go.RowKit
open Ser

/-- A backend as it lies: its health model's block, state, load, may, wait. -/
structure Bk where
  hb : Nat
  st : Int
  load : Int
  may : Int
  wait : Int
def Bk.enc (b : Bk) : List Value := [.pointer (some ⟨b.hb, 0, none⟩), .int .i64 b.st, .int .i64 b.load, .int .i64 b.may, .int .i64 b.wait]
theorem Bk.enc_len (b : Bk) : b.enc.length = 5 := rfl

/-- The pool's block. E: the element type; T: the pool's. -/
def PB (T : TypeId) (w : World) (pb lb n cap wb : Nat) (retry most : Int) : Prop := Blk w pb T #[.slice (some ⟨lb, 0, none⟩) n cap, .pointer (some ⟨wb, 0, none⟩), .int .i64 retry, .int .i64 most]
/-- The backends' row. -/
def BR (E : TypeId) (w : World) (lb cap : Nat) (bs : List Bk) : Prop := RS E 5 Bk.enc w (.slice (some ⟨lb, 0, none⟩) bs.length cap) bs

section
variable {T E : TypeId} {w w1 : World} {pb lb n cap wb : Nat} {retry most : Int} {bs : List Bk} {F : Nat → Prop}
theorem PB.c0 (h : PB T w pb lb n cap wb retry most) : w.cell? ⟨pb, 0, none⟩ = some (.slice (some ⟨lb, 0, none⟩) n cap) := (Blk.cell h 0).trans rfl
theorem PB.c1 (h : PB T w pb lb n cap wb retry most) : w.cell? ⟨pb, 1, none⟩ = some (.pointer (some ⟨wb, 0, none⟩)) := (Blk.cell h 1).trans rfl
theorem PB.c2 (h : PB T w pb lb n cap wb retry most) : w.cell? ⟨pb, 2, none⟩ = some (.int .i64 retry) := (Blk.cell h 2).trans rfl
theorem PB.c3 (h : PB T w pb lb n cap wb retry most) : w.cell? ⟨pb, 3, none⟩ = some (.int .i64 most) := (Blk.cell h 3).trans rfl
theorem PB.kept (h : PB T w pb lb n cap wb retry most) (k : Kept F w w1) (hb : ¬ F pb) : PB T w1 pb lb n cap wb retry most := Blk.kept h k hb
theorem BR.kept (h : BR E w lb cap bs) (k : Kept F w w1) (hb : ¬ F lb) : BR E w1 lb cap bs := by
  refine RS.kept h k (fun q hq => ?_)
  have e : lb = q := by simpa [Value.ownBlock] using hq
  rw [← e]
  exact hb
theorem BR.lt (h : BR E w lb cap bs) : lb < w.heap.size := RS.lt h lb rfl
theorem BR.ne_blk {b : Nat} {t : TypeId} {cs : Array Value} (h : BR E w lb cap bs) (hb : Blk w b t cs) (ht : E ≠ t) : lb ≠ b := fun e => RS.ne_blk h hb ht (by rw [← e]; rfl)
/-- The five cells of backend k. -/
theorem BR.cells (h : BR E w lb cap bs) {k : Nat} {b : Bk} (hb : bs[k]? = some b) :
    w.cell? ⟨lb, k * 5, none⟩ = some (.pointer (some ⟨b.hb, 0, none⟩)) ∧ w.cell? ⟨lb, k * 5 + 1, none⟩ = some (.int .i64 b.st) ∧ w.cell? ⟨lb, k * 5 + 2, none⟩ = some (.int .i64 b.load) ∧
    w.cell? ⟨lb, k * 5 + 3, none⟩ = some (.int .i64 b.may) ∧ w.cell? ⟨lb, k * 5 + 4, none⟩ = some (.int .i64 b.wait) := by
  obtain ⟨hk, rfl⟩ := List.getElem?_eq_some_iff.1 hb
  exact ⟨RS.cell Bk.enc_len h k 0 hk (by omega) _ rfl, RS.cell Bk.enc_len h k 1 hk (by omega) _ rfl, RS.cell Bk.enc_len h k 2 hk (by omega) _ rfl, RS.cell Bk.enc_len h k 3 hk (by omega) _ rfl, RS.cell Bk.enc_len h k 4 hk (by omega) _ rfl⟩
theorem BR.frozen (h : BR E w lb cap bs) (j : Nat) : w.frozen? ⟨lb, j, none⟩ = false := RS.frozen h j
theorem BR.store (h : BR E w lb cap bs) {k : Nat} {b : Bk} (hb : bs[k]? = some b) (c : Nat) (hc : c < 5) (u : Value) (b' : Bk) (hx : b'.enc = b.enc.set c u) : BR E (w.setCell ⟨lb, k * 5 + c, none⟩ u) lb cap (bs.set k b') := by
  obtain ⟨hk, rfl⟩ := List.getElem?_eq_some_iff.1 hb
  have := RS.store Bk.enc_len h k c hk hc u b' hx
  unfold BR
  rwa [List.length_set]
theorem BR.put1 (h : BR E w lb cap bs) {k : Nat} {b : Bk} (hb : bs[k]? = some b) (x : Int) : BR E (w.setCell ⟨lb, k * 5 + 1, none⟩ (.int .i64 x)) lb cap (bs.set k { b with st := x }) := h.store hb 1 (by omega) _ _ rfl
theorem BR.put2 (h : BR E w lb cap bs) {k : Nat} {b : Bk} (hb : bs[k]? = some b) (x : Int) : BR E (w.setCell ⟨lb, k * 5 + 2, none⟩ (.int .i64 x)) lb cap (bs.set k { b with load := x }) := h.store hb 2 (by omega) _ _ rfl
theorem BR.put3 (h : BR E w lb cap bs) {k : Nat} {b : Bk} (hb : bs[k]? = some b) (x : Int) : BR E (w.setCell ⟨lb, k * 5 + 3, none⟩ (.int .i64 x)) lb cap (bs.set k { b with may := x }) := h.store hb 3 (by omega) _ _ rfl
theorem BR.put4 (h : BR E w lb cap bs) {k : Nat} {b : Bk} (hb : bs[k]? = some b) (x : Int) : BR E (w.setCell ⟨lb, k * 5 + 4, none⟩ (.int .i64 x)) lb cap (bs.set k { b with wait := x }) := h.store hb 4 (by omega) _ _ rfl
theorem set_at {k : Nat} {b x : Bk} (hb : bs[k]? = some b) : (bs.set k x)[k]? = some x := by
  have := (List.getElem?_eq_some_iff.1 hb).1
  simp [this]
end

/-- Which backend a number is. -/
def pick (bs : List Bk) (a : Int) : Option (Nat × Bk) := if 0 ≤ a then (bs[a.toNat]?).map fun b => (a.toNat, b) else none
theorem pick_some {bs : List Bk} {a : Int} {k : Nat} {b : Bk} (h : pick bs a = some (k, b)) : bs[k]? = some b ∧ a = k ∧ k < bs.length := by
  unfold pick at h
  split at h
  · obtain ⟨b', h1, h2⟩ := Option.map_eq_some_iff.1 h
    simp only [Prod.mk.injEq] at h2
    obtain ⟨rfl, rfl⟩ := h2
    exact ⟨h1, by omega, (List.getElem?_eq_some_iff.1 h1).1⟩
  · cases h
theorem pick_none {bs : List Bk} {a : Int} (h : pick bs a = none) : a < 0 ∨ (bs.length : Int) ≤ a := by
  unfold pick at h
  split at h
  · rw [Option.map_eq_none_iff, List.getElem?_eq_none_iff] at h
    right; omega
  · left; omega

section
variable {w : World} {pb lb cap wb : Nat} {retry most : Int} {bs : List Bk}
set_option maxHeartbeats 400000 in
theorem pool_none (h : PB 51 w pb lb bs.length cap wb retry most) : Calls Try.prog 19 #[.pointer (some ⟨pb, 0, none⟩)] w fun e w' => e = .returned (.bool false) ∧ w = w' := by
  have c1 := h.c1
  go_enter Try.func19, Try.ntmps19
  go_wp2
  go_ret
  exact ⟨rfl, rfl⟩

/-- What 'at' answers. -/
def atAns (lb : Nat) (bs : List Bk) (a : Int) : Value := match pick bs a with
  | some (k, _) => .tuple #[.pointer (some ⟨lb, k * 5, none⟩), .int .i64 0]
  | none => .tuple #[.pointer none, .int .i64 1]

set_option maxHeartbeats 1000000 in
theorem pool_at (h : PB 51 w pb lb bs.length cap wb retry most) (hn : bs.length ≤ 1000) (a : Int) :
    Calls Try.prog 23 #[.pointer (some ⟨pb, 0, none⟩), .int .i64 a] w fun e w' => e = .returned (atAns lb bs a) ∧ w = w' := by
  have c0 := h.c0
  unfold atAns
  cases hp : pick bs a with
  | some p =>
    obtain ⟨k, b⟩ := p
    obtain ⟨_, rfl, hk⟩ := pick_some hp
    clear hp
    have hb1 : decide ((k : Int) < 0) = false := by simp
    go_enter Try.func23, Try.ntmps23
    go_wp2_with (go_at_call 19; refine (pool_none h).mono ?_; rintro e w' ⟨rfl, rfl⟩)
    go_ret2
    exact ⟨rfl, rfl⟩
  | none =>
    have hx := pick_none hp
    clear hp
    by_cases ha : a < 0
    · have hb1 : decide (a < 0) = true := by simpa using ha
      go_enter Try.func23, Try.ntmps23
      go_wp2_with (go_at_call 19; refine (pool_none h).mono ?_; rintro e w' ⟨rfl, rfl⟩)
      go_ret2
      exact ⟨rfl, rfl⟩
    · have hb1 : decide (a < 0) = false := by simpa using ha
      go_enter Try.func23, Try.ntmps23
      go_wp2_with (go_at_call 19; refine (pool_none h).mono ?_; rintro e w' ⟨rfl, rfl⟩)
      go_ret2
      exact ⟨rfl, rfl⟩
end
end Go.Proofs.Ytchgieogdinglaa
