/- Laws of single operations, for either walk: maps known whole, rows of numbers that are owned. -/
import Derived.Test.YtchgieogdinglaaGreatMap
namespace Go.Proofs.YtchgieogdinglaaGreat
open Go.RowKit

section
variable {P : Program} {o : Oper} {a : Act} {w : World} {K : Act → World → Prop} {Q : Exit → Act → World → Prop}

theorem wp_run {v : Value} {w' : World} (h : (execOp a.eval o).run P w = .ok (.value v) w') (hK : K (a.put o.dst v) w') : o.wp P a w K Q := by
  unfold Oper.wp
  rw [h]
  exact hK
theorem wp_run_skip {w' : World} (h : (execOp a.eval o).run P w = .ok .skip w') (hK : K (a.put o.dst undef) w') : o.wp P a w K Q := by
  unfold Oper.wp
  rw [h]
  exact hK

variable {κ : Type} [DecidableEq κ] {d : TypeDesc} {enc : κ → Value} {m : List (κ × Value)} {r : Nat} {k : κ} {t kt e : TypeId}
theorem wp_look (KE : KeyEnc d enc) (x y : Operand) (ok : Bool) (hop : o.op = .lookup t x y ok) (ht : P.underlying t = some (.map kt e)) (hkt : P.underlying kt = some d) {z : Value} (hz : ∀ w, (zeroValue e).run P w = .ok z w)
    (hx : a.eval x = .map (some r)) (hy : a.eval y = enc k) (h : IsMap enc w r m) (v : Value) (hv : (if ok then .tuple #[(look k m).getD z, .bool (look k m).isSome] else (look k m).getD z) = v) (hK : K (a.put o.dst v) w) : o.wp P a w K Q := by
  refine wp_run (v := v) (w' := w) ?_ hK
  unfold execOp
  rw [hop]
  simp only [Sem.run_bind, hx, hy, run_look KE ht hkt hz h k ok, Result.andThen_ok, Sem.run_pure, hv]
theorem wp_mset (KE : KeyEnc d enc) (x y z : Operand) (hop : o.op = .mapUpdate t x y z) (ht : P.underlying t = some (.map kt e)) (hkt : P.underlying kt = some d)
    (hx : a.eval x = .map (some r)) (hy : a.eval y = enc k) (h : IsMap enc w r m) (hK : ∀ ob, IsMap enc (mput w r ob) r (mset k (a.eval z) m) → K (a.put o.dst undef) (mput w r ob)) : o.wp P a w K Q := by
  obtain ⟨ob, h1, h2⟩ := run_mset (P := P) KE ht hkt h k (a.eval z)
  refine wp_run_skip (w' := mput w r ob) ?_ (hK ob h2)
  unfold execOp
  rw [hop]
  simp only [Sem.run_bind, hx, hy, h1, Result.andThen_ok, Sem.run_pure]
theorem wp_mdel (KE : KeyEnc d enc) (x y : Operand) (ats : Array TypeId) (hop : o.op = .call { callee := .builtin .delete, args := #[x, y], argTypes := ats }) (ha : ats[0]? = some t) (ht : P.underlying t = some (.map kt e)) (hkt : P.underlying kt = some d)
    (hx : a.eval x = .map (some r)) (hy : a.eval y = enc k) (h : IsMap enc w r m) (hK : ∀ ob, IsMap enc (mput w r ob) r (mdel k m) → K (a.put o.dst (.tuple #[])) (mput w r ob)) : o.wp P a w K Q := by
  obtain ⟨ob, h1, h2⟩ := run_mdel (P := P) (ty := o.type) KE ht hkt h k ats ha
  refine wp_run (v := .tuple #[]) (w' := mput w r ob) ?_ (hK ob h2)
  unfold execOp
  rw [hop]
  simp only [resolve, pure_bind, invoke, builtin, List.map_toArray, List.map_cons, List.map_nil, hx, hy, Sem.run_bind, h1, Result.andThen_ok, Sem.run_pure]
end
section
variable {P : Program} {o : Oper} {a : Act} {w : World} {K : Act → World → Prop} {Q : Exit → Act → World → Prop} {κ : Type} {enc : κ → Value} {m : List (κ × Value)} {r : Nat} {t kt e : TypeId}
theorem wp_mlen (x : Operand) (ats : Array TypeId) (hop : o.op = .call { callee := .builtin .len, args := #[x], argTypes := ats }) (ha : ats[0]? = some t) (ht : P.underlying t = some (.map kt e))
    (hx : a.eval x = .map (some r)) (h : IsMap enc w r m) (hK : K (a.put o.dst (.int .i64 m.length)) w) : o.wp P a w K Q := by
  refine wp_run (v := .int .i64 m.length) (w' := w) ?_ hK
  unfold execOp
  rw [hop]
  simp only [resolve, pure_bind, invoke, builtin, List.map_toArray, List.map_cons, List.map_nil, hx, Sem.run_bind, run_mlen (ty := o.type) ht h ats ha, Result.andThen_ok, Sem.run_pure]
end

/-! ### A row of numbers that somebody owns -/

/-- The slice value v holds the numbers xs: nil, or at the head of a block of its own. -/
def RI (E : TypeId) (w : World) (v : Value) (xs : List Int) : Prop := w.ownsRow 0 E 1 v xs.length (xs.map (Value.int .i64))

section
variable {E : TypeId} {w w1 : World} {v : Value} {xs : List Int} {F : Nat → Prop}
theorem RI.nil (w : World) : RI E w (.slice none 0 0) [] := World.ownsRow_nil w 0 E 1
theorem RI.form (h : RI E w v xs) : (v = .slice none 0 0 ∧ xs = []) ∨ ∃ g cap cur, v = .slice (some ⟨g, 0, none⟩) xs.length cap ∧ w.heap[g]? = some (.cells cur E (0, 0)) ∧ xs.length ≤ cap ∧ cap ≤ maxLen ∧ cur.size = cap ∧ cur.toList.take xs.length = xs.map (Value.int .i64) := by
  rcases h.2 with ⟨h1, h2⟩ | ⟨g, cap, cur, h1, _, h2, h3, h4, h5, h6⟩
  · exact .inl ⟨h1, List.eq_nil_of_length_eq_zero h2⟩
  · exact .inr ⟨g, cap, cur, h1, h2, h3, h4, by omega, by rw [Nat.mul_one] at h6; exact h6⟩
theorem RI.lt (h : RI E w v xs) (k : Nat) (hk : v.ownBlock = some k) : k < w.heap.size := by
  rcases h.form with ⟨rfl, _⟩ | ⟨g, cap, cur, rfl, hg, _⟩
  · simp [Value.ownBlock] at hk
  · simp [Value.ownBlock] at hk
    subst hk
    exact (Array.getElem?_eq_some_iff.1 hg).1
theorem RI.kept (h : RI E w v xs) (k : Kept F w w1) (hv : ∀ b, v.ownBlock = some b → ¬ F b) : RI E w1 v xs := by
  refine ⟨h.1, ?_⟩
  rcases h.2 with hn | ⟨g, cap, cur, rfl, hb, hg, rest⟩
  · exact .inl hn
  · refine .inr ⟨g, cap, cur, rfl, hb, ?_, rest⟩
    rw [k.block g (Array.getElem?_eq_some_iff.1 hg).1 (hv g rfl)]
    exact hg
theorem RI.ne_blk {b : Nat} {t : TypeId} {cs : Array Value} (h : RI E w v xs) (hb : Blk w b t cs) (ht : E ≠ t) : v.ownBlock ≠ some b := by
  rcases h.form with ⟨rfl, _⟩ | ⟨g, cap, cur, rfl, hg, _⟩
  · simp [Value.ownBlock]
  · intro hk
    simp [Value.ownBlock] at hk
    subst hk
    exact Blk.ne_ (t := E) hg hb ht rfl
theorem RI.ne_map {κ : Type} {enc : κ → Value} {r : Nat} {m : List (κ × Value)} (h : RI E w v xs) (hm : IsMap enc w r m) : v.ownBlock ≠ some r := by
  rcases h.form with ⟨rfl, _⟩ | ⟨g, cap, cur, rfl, hg, _⟩
  · simp [Value.ownBlock]
  · intro hk
    simp [Value.ownBlock] at hk
    subst hk
    obtain ⟨es, c, hb, _⟩ := hm
    rw [hb] at hg
    cases hg
theorem RI.cell (h : RI E w v xs) {g cap : Nat} (hv : v = .slice (some ⟨g, 0, none⟩) xs.length cap) (j : Nat) (hj : j < xs.length) : w.cell? ⟨g, j, none⟩ = some (.int .i64 (xs.getD j 0)) := by
  have := h.cells (g := g) (by rw [hv]; rfl) j (.int .i64 (xs.getD j 0)) (by simp [hj])
  rwa [Addr.add_lit, Nat.zero_add] at this
end

theorem setCells_row {E : TypeId} (g : Nat) : ∀ (vs : List Value) (o : Nat) (w : World) (cur : Array Value), w.heap[g]? = some (.cells cur E (0, 0)) → o + vs.length ≤ cur.size →
    ∃ cur', (w.setCells g o vs).heap[g]? = some (.cells cur' E (0, 0)) ∧ cur'.size = cur.size ∧ cur'.toList = cur.toList.take o ++ vs ++ cur.toList.drop (o + vs.length)
  | [], o, w, cur, h, _ => ⟨cur, h, rfl, by simp⟩
  | v :: vs, o, w, cur, h, hl => by
    have h1 : (w.setCell ⟨g, o, none⟩ v).heap[g]? = some (.cells (cur.setIfInBounds o v) E (0, 0)) := Blk.set_ (t := E) h o v
    simp only [List.length_cons] at hl
    obtain ⟨cur', h2, h3, h4⟩ := setCells_row g vs (o + 1) (w.setCell ⟨g, o, none⟩ v) _ h1 (by simp; omega)
    refine ⟨cur', h2, by rw [h3]; simp, ?_⟩
    rw [h4]
    have ho : o < cur.toList.length := by simp; omega
    simp only [Array.toList_setIfInBounds, List.length_cons]
    rw [List.take_set, List.drop_set, if_pos (by omega), List.take_succ_eq_append_getElem ho, List.set_append_right _ _ (by simp; omega)]
    have : o - (cur.toList.take o).length = 0 := by simp; omega
    rw [this]
    simp [Nat.add_assoc, Nat.add_comm 1]
theorem Kept.setCells_ (g : Nat) (vs : List Value) (o : Nat) (w : World) : Kept (· = g) w (w.setCells g o vs) := by
  induction vs generalizing o w with
  | nil => exact Kept.refl _ _
  | cons v vs ih => exact ((Kept.refl _ _).put v).trans (ih (o + 1) _)
theorem RI.slice {E : TypeId} {w : World} {xs : List Int} {g cap : Nat} (h : RI E w (.slice (some ⟨g, 0, none⟩) xs.length cap) xs) :
    ∃ cur, w.heap[g]? = some (.cells cur E (0, 0)) ∧ xs.length ≤ cap ∧ cap ≤ maxLen ∧ cur.size = cap ∧ cur.toList.take xs.length = xs.map (Value.int .i64) := by
  rcases h.form with ⟨h1, _⟩ | ⟨g', cap', cur, h1, hg, h3, h4, h5, h6⟩
  · cases h1
  · have e1 : g' = g ∧ cap' = cap := by simpa [eq_comm] using h1
    obtain ⟨rfl, rfl⟩ := e1
    exact ⟨cur, hg, h3, h4, h5, h6⟩
theorem RI.del {E : TypeId} {w : World} {xs ys : List Int} {g cap : Nat} (h : RI E w (.slice (some ⟨g, 0, none⟩) xs.length cap) xs) (hl : ys.length + 1 = xs.length) :
    RI E (w.setCells g 0 ((ys ++ [0]).map (Value.int .i64))) (.slice (some ⟨g, 0, none⟩) ys.length cap) ys := by
  rcases h.form with ⟨h1, _⟩ | ⟨g', cap', cur, h1, hg, h3, h4, h5, h6⟩
  · cases h1
  · have e1 : g' = g ∧ cap' = cap := by simpa [eq_comm] using h1
    obtain ⟨rfl, rfl⟩ := e1
    obtain ⟨cur', k1, k2, k3⟩ := setCells_row g' ((ys ++ [0]).map (Value.int .i64)) 0 w cur hg (by simp; omega)
    refine ⟨by simp, .inr ⟨g', cap', cur', rfl, Nat.zero_le _, k1, by omega, h4, by omega, ?_⟩⟩
    rw [k3, Nat.mul_one]
    simp
end Go.Proofs.YtchgieogdinglaaGreat
