/- Rows of structs that somebody owns: element k's cells, a store into one. -/
import Derived.Test.YtchgieogdinglaaGreatPush
set_option linter.unusedSimpArgs false
namespace Go.Proofs.YtchgieogdinglaaGreat
open Go.RowKit

section
variable {α : Type}
/-- Each element's cells are m in number. -/
theorem flat_len (enc : α → List Value) (m : Nat) (hk : ∀ x, (enc x).length = m) : ∀ L : List α, (L.flatMap enc).length = L.length * m
  | [] => by simp
  | x :: L => by simp only [List.flatMap_cons, List.length_append, hk, flat_len enc m hk L, List.length_cons, Nat.add_mul]; omega
theorem flat_get (enc : α → List Value) (m : Nat) (hk : ∀ x, (enc x).length = m) : ∀ (L : List α) (k c : Nat) (hl : k < L.length), c < m → (L.flatMap enc)[k * m + c]? = (enc L[k])[c]?
  | x :: L, 0, c, _, hc => by
    rw [List.flatMap_cons, List.getElem?_append_left (by rw [hk]; omega)]
    simp
  | x :: L, k + 1, c, hl, hc => by
    have e : (k + 1) * m + c - m = k * m + c := by rw [Nat.add_mul]; omega
    rw [List.flatMap_cons, List.getElem?_append_right (by rw [hk, Nat.add_mul]; omega), hk, e, flat_get enc m hk L k c (by simpa using hl) hc]
    rfl
theorem flat_set (enc : α → List Value) (m : Nat) (hk : ∀ x, (enc x).length = m) : ∀ (L : List α) (k c : Nat) (v : Value) (x' : α) (hl : k < L.length), c < m → enc x' = (enc L[k]).set c v → (L.flatMap enc).set (k * m + c) v = (L.set k x').flatMap enc
  | x :: L, 0, c, v, x', _, hc, he => by
    simp only [Nat.zero_mul, Nat.zero_add, List.flatMap_cons, List.set_cons_zero]
    rw [List.set_append_left _ _ (by rw [hk]; exact hc), he]
    rfl
  | x :: L, k + 1, c, v, x', hl, hc, he => by
    have e : (k + 1) * m + c - m = k * m + c := by rw [Nat.add_mul]; omega
    simp only [List.flatMap_cons, List.set_cons_succ]
    rw [List.set_append_right _ _ (by rw [hk, Nat.add_mul]; omega), hk, e, flat_set enc m hk L k c v x' (by simpa using hl) hc he]
end

/-- The slice value v holds the elements L, each of m cells, on a block of its own or nil. -/
def RS {α : Type} (E : TypeId) (m : Nat) (enc : α → List Value) (w : World) (v : Value) (L : List α) : Prop := w.ownsRow 0 E m v L.length (L.flatMap enc)

section
variable {α : Type} {E : TypeId} {m : Nat} {enc : α → List Value} {w w1 : World} {v : Value} {L : List α} {F : Nat → Prop}
theorem RS.form (h : RS E m enc w v L) : ∃ ao cap, v = .slice ao L.length cap ∧ (0 < L.length → ∃ g, ao = some ⟨g, 0, none⟩) := by
  rcases h.2 with ⟨rfl, h2⟩ | ⟨g, cap, cur, e, _⟩
  · rw [h2]; exact ⟨none, 0, rfl, fun h => absurd h (Nat.lt_irrefl 0)⟩
  · exact ⟨_, cap, e, fun _ => ⟨g, rfl⟩⟩
theorem RS.lt (h : RS E m enc w v L) (k : Nat) (hk : v.ownBlock = some k) : k < w.heap.size := by
  rcases h.2 with ⟨rfl, _⟩ | ⟨g, cap, cur, rfl, _, hg, _⟩
  · simp [Value.ownBlock] at hk
  · simp [Value.ownBlock] at hk
    subst hk
    exact (Array.getElem?_eq_some_iff.1 hg).1
theorem RS.kept (h : RS E m enc w v L) (k : Kept F w w1) (hv : ∀ b, v.ownBlock = some b → ¬ F b) : RS E m enc w1 v L := by
  refine ⟨h.1, ?_⟩
  rcases h.2 with hn | ⟨g, cap, cur, rfl, hb, hg, rest⟩
  · exact .inl hn
  · refine .inr ⟨g, cap, cur, rfl, hb, ?_, rest⟩
    rw [k.block g (Array.getElem?_eq_some_iff.1 hg).1 (hv g rfl)]
    exact hg
theorem RS.ne_blk {b : Nat} {t : TypeId} {cs : Array Value} (h : RS E m enc w v L) (hb : Blk w b t cs) (ht : E ≠ t) : v.ownBlock ≠ some b := by
  rcases h.2 with ⟨rfl, _⟩ | ⟨g, cap, cur, rfl, _, hg, _⟩
  · simp [Value.ownBlock]
  · intro hk
    simp [Value.ownBlock] at hk
    subst hk
    exact Blk.ne_ (t := E) hg hb ht rfl
theorem RS.ne_map {κ : Type} {e : κ → Value} {r : Nat} {mm : List (κ × Value)} (h : RS E m enc w v L) (hm : IsMap e w r mm) : v.ownBlock ≠ some r := by
  rcases h.2 with ⟨rfl, _⟩ | ⟨g, cap, cur, rfl, _, hg, _⟩
  · simp [Value.ownBlock]
  · intro hk
    simp [Value.ownBlock] at hk
    subst hk
    obtain ⟨es, c, hb, _⟩ := hm
    rw [hb] at hg
    cases hg
theorem RS.ne_row {β : Type} {E' : TypeId} {m' : Nat} {enc' : β → List Value} {v' : Value} {L' : List β} (h : RS E m enc w v L) (h' : RS E' m' enc' w v' L') (ht : E ≠ E') (k : Nat) (hk : v.ownBlock = some k) : v'.ownBlock ≠ some k := by
  rcases h.2 with ⟨rfl, _⟩ | ⟨g, cap, cur, rfl, _, hg, _⟩
  · simp [Value.ownBlock] at hk
  · simp [Value.ownBlock] at hk
    subst hk
    exact h'.ne_blk (t := E) hg (fun e => ht e.symm)
theorem RS.nil (w : World) : RS E m enc w (.slice none 0 0) [] := World.ownsRow_nil w 0 E m
theorem RS.cell {g cap n : Nat} (hk : ∀ x, (enc x).length = m) (h : RS E m enc w (.slice (some ⟨g, 0, none⟩) n cap) L) (k c : Nat) (hl : k < L.length) (hc : c < m) (u : Value) (hu : (enc L[k])[c]? = some u) : w.cell? ⟨g, k * m + c, none⟩ = some u := by
  have h1 := h.cells (g := g) rfl (k * m + c) u (by rw [flat_get enc m hk L k c hl hc]; exact hu)
  rwa [Addr.add_lit, Nat.zero_add] at h1
theorem RS.frozen {g cap n : Nat} (h : RS E m enc w (.slice (some ⟨g, 0, none⟩) n cap) L) (j : Nat) : w.frozen? ⟨g, j, none⟩ = false := by
  rcases h.2 with ⟨e, _⟩ | ⟨g', cap', cur, e, _, hg, _⟩
  · cases e
  · have e' : g' = g := by have := e; simp at this; exact this.1.symm
    subst e'
    exact Blk.frozen (t := E) hg j
theorem RS.store {g cap n : Nat} (hk : ∀ x, (enc x).length = m) (h : RS E m enc w (.slice (some ⟨g, 0, none⟩) n cap) L) (k c : Nat) (hl : k < L.length) (hc : c < m) (u : Value) (x' : α) (hx : enc x' = (enc L[k]).set c u) :
    RS E m enc (w.setCell ⟨g, k * m + c, none⟩ u) (.slice (some ⟨g, 0, none⟩) n cap) (L.set k x') := by
  have hlen := flat_len enc m hk L
  rcases h.2 with ⟨e, _⟩ | ⟨g', cap', cur, e, h0, hg, h3, h4, h5, h6⟩
  · cases e
  · have e1 : g' = g ∧ n = L.length ∧ cap' = cap := by have := e; simp at this; exact ⟨this.1.symm, this.2.1, this.2.2.symm⟩
    obtain ⟨rfl, rfl, rfl⟩ := e1
    have hlt : k * m + c < L.length * m := by
      have := Nat.mul_le_mul_right m (show k + 1 ≤ L.length from hl)
      rw [Nat.add_mul, Nat.one_mul] at this
      omega
    refine ⟨by rw [flat_len enc m hk], .inr ⟨g', cap', cur.setIfInBounds (k * m + c) u, by simp, h0, Blk.set_ (t := E) hg _ _, by simpa using h3, h4, by simpa using h5, ?_⟩⟩
    rw [← flat_set enc m hk L k c u x' hl hc hx, ← h6, List.length_set]
    rw [Array.toList_setIfInBounds, List.take_set]
theorem RS.pushed {w' : World} {v' : Value} {x : α} {n : Nat} {cs : List Value} (p : Pushed w E m v n cs v' w') (hn : n = L.length + 1) (hcs : cs = L.flatMap enc ++ enc x) : RS E m enc w' v' (L ++ [x]) := by
  have := p.own
  unfold RS
  subst hn hcs
  rw [List.length_append, List.flatMap_append]
  simpa using this
end
end Go.Proofs.YtchgieogdinglaaGreat
