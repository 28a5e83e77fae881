/- The law's loop: its relation, and what a round does to it. -/
import Derived.Test.YtchgieogdinglaaLawH
set_option linter.unusedSimpArgs false
set_option linter.unusedVariables false
namespace Go.Proofs.Ytchgieogdinglaa
open Go.RowKit
open Ser

theorem Kept.cell {w w1 : World} (k : Kept (fun _ => False) w w1) {p : Addr} (h : p.block < w.heap.size) : w1.cell? p = w.cell? p := World.cell?_of_block (k.block p.block h (fun x => x))

theorem quiet_left_ {P : Program} {f : FuncId} {args : Array Value} {w : World} {n : Nat} {v : Value} (h : Calls P f args (w.drewN n) fun e w' => e = .returned v ∧ w.drewN n = w') :
    Calls P f args (w.drewN n) fun e w'' => e = .returned v ∧ ∃ m, w'' = w.drewN m := h.mono fun _ _ ⟨he, hm⟩ => ⟨he, n, hm.symm⟩

/-- The script, as it lies in memory. -/
def Script (w : World) (ao : Option Addr) (n : Nat) : Prop :=
  ∀ k, k < n → ∃ (b off : Nat) (wh x y : Int), ao = some ⟨b, off, none⟩ ∧ b < w.heap.size ∧ y ≤ 9223372036854775807 ∧ w.cell? ⟨b, off + k * 3, none⟩ = some (.int .i64 wh) ∧ w.cell? ⟨b, off + k * 3 + 1, none⟩ = some (.int .i64 x) ∧ w.cell? ⟨b, off + k * 3 + 2, none⟩ = some (.int .i64 y)

def LawR (c : PC) (d : RC) (w0 : World) (n : Nat) (i : Value) (wr : World) : Prop :=
  ∃ (k : Nat) (bs ds : List Bk) (G H : Nat → Prop), k ≤ n ∧ i = .int .i64 k ∧ bs.length = 3 ∧ ds.length = 3 ∧ Two c d wr bs ds (3 + k) G H ∧ (∀ q, G q ∨ H q → w0.heap.size ≤ q) ∧ Kept (fun _ => False) w0 wr

section
variable {c : PC} {d : RC} {w0 w w1 w2 : World} {bs ds : List Bk} {N : Int} {G H : Nat → Prop}
theorem LawR.next {n k : Nat} (hk : k < n) (hG0 : ∀ q, G q ∨ H q → w0.heap.size ≤ q) (hkk : Kept (fun _ => False) w0 w) (P : TwoDone c d w 3 3 (3 + k + 1) G H w1) (kE : Kept (fun _ => False) w1 w2) : LawR c d w0 n (.int .i64 ((k : Int) + 1)) w2 := by
  obtain ⟨bs', ds', G', H', l1, l2, T, kp, hh⟩ := P
  have s0 := hkk.size
  refine ⟨k + 1, bs', ds', G', H', hk, by simp, l1, l2, (T.kept kE (fun _ _ x => x) (fun _ _ x => x)).more (by omega), fun q hq => ?_, (hkk.trans' kp (fun q hq h => by have := hG0 q h; omega)).trans kE⟩
  rcases hh q hq with h | h
  · exact hG0 q h
  · omega

/-- A take of the program's pool. -/
theorem take_inv (I : PInv c w bs N G) {a : Int} {e : Ending} (h : RowDone c.lb c.cap w (takeOf bs a) e w1) : e = .returned (.int .i64 (takeOf bs a).1) ∧ PInv c w1 (takeOf bs a).2 (N + 1) G ∧ (takeOf bs a).2.length = bs.length ∧ Kept G w w1 := by
  have hl : (takeOf bs a).2.length = bs.length := by
    unfold takeOf
    split
    · rfl
    · split
      · split <;> simp
      · rfl
  refine ⟨h.1, I.rowed h.2.1 h.2.2 hl (by omega) fun b' hb' => ?_, hl, h.2.2.mono (fun i _ e => by rw [e]; exact I.gl)⟩
  have old : b' ∈ bs → BkOk c (N + 1) b' ∧ ∃ b ∈ bs, b'.hb = b.hb := fun h => ⟨(I.b b' h).more (by omega), b', h, rfl⟩
  unfold takeOf at hb'
  cases hp : pick bs a with
  | none => simp only [hp] at hb'; exact old hb'
  | some p =>
    obtain ⟨k, b⟩ := p
    obtain ⟨hb, _, _⟩ := pick_some hp
    simp only [hp] at hb'
    split at hb'
    · split at hb'
      · exact old hb'
      · rcases List.mem_or_eq_of_mem_set hb' with h | rfl
        · exact old h
        · have hbo := I.b b (List.mem_of_getElem? hb)
          exact ⟨⟨by have := hbo.1; simp only; omega, by have := hbo.2.1; simp only; omega, hbo.2.2⟩, b, List.mem_of_getElem? hb, rfl⟩
    · exact old hb'

/-- .. and of the reference's behind it. -/
theorem took_done (T : Two c d w bs ds N G H) {bs2 : List Bk} (hp : PInv c w1 bs2 (N + 1) G) (hl : bs2.length = bs.length) (k1 : Kept G w w1) (s : RStep d w1 ds N H w2) :
    PInv c w2 bs2 (N + 1) G ∧ TwoDone c d w bs.length ds.length (N + 1) G H w2 := by
  obtain ⟨ds', H', hm, hr, hh⟩ := s
  have hp2 : PInv c w2 bs2 (N + 1) G := hp.kept hh.kept (fun i hi hH => T.apart i hi hH) (Int.le_refl _)
  refine ⟨hp2, ⟨bs2, ds', G, H', hl, hm, ⟨hp2, hr, fun i hi hH => ?_⟩, (k1.mono (fun _ _ h => .inl h)).trans (hh.kept.mono (fun _ _ h => .inr h)), fun i hi => ?_⟩⟩
  · rcases hh.home i hH with h | h
    · exact T.apart i hi h
    · have := hp.lt i hi; omega
  · rcases hi with h | h
    · exact .inl (.inl h)
    · rcases hh.home i h with h | h
      · exact .inl (.inr h)
      · right; have := k1.size; omega

theorem pick_at {k : Nat} {b : Bk} (hb : bs[k]? = some b) : pick bs (k : Int) = some (k, b) := by
  unfold pick
  rw [if_pos (by omega)]
  simp [hb]
theorem take_up {k : Nat} {b : Bk} (hb : bs[k]? = some b) (h2 : b.st = 2) (h : b.load < b.may) : takeOf bs (k : Int) = (0, bs.set k { b with load := b.load + 1 }) := by
  unfold takeOf
  rw [pick_at hb]
  simp only
  rw [if_pos h2, if_neg (by omega)]
theorem take_full {k : Nat} {b : Bk} (hb : bs[k]? = some b) (h2 : b.st = 2) (h : b.may ≤ b.load) : takeOf bs (k : Int) = (9, bs) := by
  unfold takeOf
  rw [pick_at hb]
  simp only
  rw [if_pos h2, if_pos h]
theorem take_not {k : Nat} {b : Bk} (hb : bs[k]? = some b) (h2 : ¬ b.st = 2) : takeOf bs (k : Int) = (5, bs) := by
  unfold takeOf
  rw [pick_at hb]
  simp only
  rw [if_neg h2]
theorem state_at {k : Nat} {b : Bk} (hb : bs[k]? = some b) : stateOf bs (k : Int) = b.st := by
  unfold stateOf
  rw [pick_at hb]

/-- What Backs has told, entry by entry. -/
theorem backs_at {v : Value} {L : List Bv} (hl : L.length = bs.length) (hB : BacksOf bs L) (hr : RB w v L) {k : Nat} {b : Bk} (hb : bs[k]? = some b) :
    ∃ g cap up, v = .slice (some ⟨g, 0, none⟩) L.length cap ∧ w.cell? ⟨g, k * 3, none⟩ = some (.bool up) ∧ w.cell? ⟨g, k * 3 + 1, none⟩ = some (.int .i64 (if b.st = 2 then max 0 (b.may - b.load) else 0)) ∧ w.cell? ⟨g, k * 3 + 2, none⟩ = some (.int .i64 b.load) ∧ (up = true → b.st = 2) := by
  have hk : k < bs.length := (List.getElem?_eq_some_iff.1 hb).1
  have hkL : k < L.length := by omega
  obtain ⟨ao, cap, rfl, hao⟩ := RS.form hr
  obtain ⟨g, rfl⟩ := hao (by omega)
  obtain ⟨h1, h2, h3⟩ := hB k b L[k] hb (List.getElem?_eq_getElem hkL)
  have hx : Bv.enc L[k] = [.bool L[k].1, .int .i64 L[k].2.1, .int .i64 L[k].2.2] := rfl
  refine ⟨g, cap, L[k].1, rfl, RS.cell (enc := Bv.enc) (m := 3) (fun _ => rfl) hr k 0 hkL (by omega) _ (by rw [hx]; rfl), ?_, ?_, h3⟩
  · rw [← h2]; exact RS.cell (enc := Bv.enc) (m := 3) (fun _ => rfl) hr k 1 hkL (by omega) _ (by rw [hx]; rfl)
  · rw [← h1]; exact RS.cell (enc := Bv.enc) (m := 3) (fun _ => rfl) hr k 2 hkL (by omega) _ (by rw [hx]; rfl)
end
end Go.Proofs.Ytchgieogdinglaa
