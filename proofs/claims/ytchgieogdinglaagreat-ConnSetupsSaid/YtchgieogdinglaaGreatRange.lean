/- Ranging over a map that is known entry by entry, in whatever order. -/
import Derived.Test.YtchgieogdinglaaGreatMap
import Derived.Maps.RangeRun
set_option linter.unusedSimpArgs false
set_option linter.unusedVariables false
namespace Go.Proofs.YtchgieogdinglaaGreat
open Go.RowKit
open Go.ChangeMaps (setBlock)

/-- Block r is a map of these entries, each laid at a time of its own. -/
def MapB {κ : Type} (enc : κ → Value) (w : World) (r : Nat) (m : List (κ × Value)) : Prop :=
  ∃ es clock, w.heap[r]? = some (.map es clock) ∧ es.toList.map (fun e => (e.key, e.val)) = m.map (fun p => (enc p.1, p.2)) ∧ (∀ x ∈ es.toList, x.born < clock) ∧ (es.toList.map (·.born)).Nodup

/-- Block r is an iterator over the map in block bm, which has not been written since; so many entries are to come. -/
def IterB {κ : Type} (enc : κ → Value) (w : World) (r bm : Nat) (m : List (κ × Value)) (left : Nat) : Prop :=
  ∃ es clock seen, w.heap[r]? = some (.mapIter (some bm) clock seen clock) ∧ w.heap[bm]? = some (.map es clock) ∧ es.toList.map (fun e => (e.key, e.val)) = m.map (fun p => (enc p.1, p.2)) ∧ (∀ x ∈ es.toList, x.born < clock) ∧ (es.toList.map (·.born)).Nodup ∧ (leftOf es seen).size = left

section
variable {κ : Type} {enc : κ → Value} {w w1 : World} {r bm : Nat} {m : List (κ × Value)} {left : Nat}
theorem MapB.is (h : MapB enc w r m) : IsMap enc w r m := by
  obtain ⟨es, c, h1, h2, _⟩ := h
  exact ⟨es, c, h1, h2⟩
theorem MapB.lt (h : MapB enc w r m) : r < w.heap.size := h.is.lt
theorem MapB.kept {F : Nat → Prop} (h : MapB enc w r m) (k : Kept F w w1) (hr : ¬ F r) : MapB enc w1 r m := by
  have hl := h.lt
  obtain ⟨es, c, hb, h2⟩ := h
  exact ⟨es, c, (k.block r hl hr).trans hb, h2⟩
theorem MapB.new (enc : κ → Value) (w : World) : MapB enc (w.alloc (.map #[] 0)) w.heap.size [] := ⟨#[], 0, heap_alloc_new w _, rfl, by simp, by simp⟩
/-- How many entries are to come. -/
def iterLeft (w : World) (r bm : Nat) : Nat := match w.heap[r]?, w.heap[bm]? with
  | some (.mapIter _ _ seen _), some (.map es _) => (leftOf es seen).size
  | _, _ => 0
theorem IterB.left_eq (h : IterB enc w r bm m left) : iterLeft w r bm = left := by
  obtain ⟨es, c, seen, hr, hb, _, _, _, h6⟩ := h
  unfold iterLeft
  rw [hr, hb]
  exact h6
theorem IterB.lt (h : IterB enc w r bm m left) : r < w.heap.size ∧ bm < w.heap.size := by
  obtain ⟨es, c, seen, hr, hb, _⟩ := h
  exact ⟨(Array.getElem?_eq_some_iff.1 hr).1, (Array.getElem?_eq_some_iff.1 hb).1⟩
theorem IterB.kept {F : Nat → Prop} (h : IterB enc w r bm m left) (k : Kept F w w1) (hr : ¬ F r) (hb : ¬ F bm) : IterB enc w1 r bm m left := by
  have hl := h.lt
  obtain ⟨es, c, seen, h1, h2, h3⟩ := h
  exact ⟨es, c, seen, (k.block r hl.1 hr).trans h1, (k.block bm hl.2 hb).trans h2, h3⟩

theorem MapB.range {P : Program} {t k e : TypeId} (h : MapB enc w bm m) (ht : P.underlying t = some (.map k e)) :
    ∃ o, (Instr.range t (.map (some bm))).run P w = .ok (.pointer (some ⟨w.heap.size, 0, none⟩)) (w.alloc o) ∧ IterB enc (w.alloc o) w.heap.size bm m m.length := by
  have hl := h.lt
  obtain ⟨es, c, hb, h2, h3, h4⟩ := h
  refine ⟨_, run_range_map w t k e bm es c ht hb, es, c, #[], heap_alloc_new w _, (heap_alloc_old w _ hl).trans hb, h2, h3, h4, ?_⟩
  have e1 : leftOf es #[] = es := by unfold leftOf; simp
  rw [e1]
  have := congrArg List.length h2
  simpa using this

theorem IterB.next {P : Program} (h : IterB enc w r bm m left) (ty : TypeId) :
    (left = 0 ∧ (Instr.next (.pointer (some ⟨r, 0, none⟩)) false ty).run P w = .ok (.tuple #[.bool false]) w) ∨
    ∃ k v w1 left', (k, v) ∈ m ∧ (Instr.next (.pointer (some ⟨r, 0, none⟩)) false ty).run P w = .ok (.tuple #[.bool true, enc k, v]) w1 ∧ IterB enc w1 r bm m left' ∧ left' < left ∧ Kept (· = r) w w1 ∧
      (Instr.entry (.pointer (some ⟨r, 0, none⟩))).run P w1 = .ok (.tuple #[enc k, v]) w1 := by
  have hl := h.lt
  obtain ⟨es, c, seen, hr, hb, h3, h4, h5, h6⟩ := h
  have hne : bm ≠ r := fun e => by subst e; rw [hr] at hb; cases hb
  rcases run_next_at (P := P) w ty r bm c c seen es c hr hb h4 (Nat.le_refl _) with ⟨h0, hrun⟩ | ⟨e, he, w1, hw1, hrun⟩
  · exact .inl ⟨by omega, hrun⟩
  · right
    obtain ⟨hee, _⟩ := mem_left he
    have hpair : (e.key, e.val) ∈ m.map (fun p => (enc p.1, p.2)) := by rw [← h3]; exact List.mem_map_of_mem (f := fun x : MapEntry => (x.key, x.val)) hee
    obtain ⟨⟨k, v⟩, hkv, hk⟩ := List.mem_map.1 hpair
    simp only [Prod.mk.injEq] at hk
    obtain ⟨hk1, hk2⟩ := hk
    have hs := left_shrinks es seen e he
    have hr1 : w1.heap[r]? = some (.mapIter (some bm) c seen c) := by rcases hw1 with rfl | rfl <;> exact hr
    have hb1 : w1.heap[bm]? = some (.map es c) := by rcases hw1 with rfl | rfl <;> exact hb
    have hat : (setBlock w1 r (.mapIter (some bm) c (seen.push e.born) c)).heap[r]? = some (.mapIter (some bm) c (seen.push e.born) c) := by
      have : r < w1.heap.size := (Array.getElem?_eq_some_iff.1 hr1).1
      simp [setBlock, this]
    have hbt : (setBlock w1 r (.mapIter (some bm) c (seen.push e.born) c)).heap[bm]? = some (.map es c) := by
      simp [setBlock, Array.getElem?_setIfInBounds, Ne.symm hne, hb1]
    refine ⟨k, v, _, _, hkv, by rw [hk1, hk2]; exact hrun, ⟨es, c, seen.push e.born, hat, hbt, h3, h4, h5, rfl⟩, by omega, ?_, ?_⟩
    · have k1 : Kept (· = r) w w1 := by
        rcases hw1 with rfl | rfl
        · exact Kept.refl _ _
        · exact (Kept.refl _ _).drew
      exact k1.trans ⟨rfl, rfl, rfl, by simp [setBlock], fun i hi hn => by simp [setBlock, Array.getElem?_setIfInBounds, Ne.symm hn]⟩
    · rw [hk1, hk2]
      exact run_entry_at _ r bm c seen es c e hat hbt hee h5
end

section
variable {P : Program} {κ : Type} [DecidableEq κ] {d : TypeDesc} {enc : κ → Value}
theorem run_msetB (K : KeyEnc d enc) {t kt e : TypeId} (ht : P.underlying t = some (.map kt e)) (hkt : P.underlying kt = some d) {w : World} {r : Nat} {m : List (κ × Value)} (h : MapB enc w r m) (k : κ) (v : Value) :
    ∃ o, (Instr.mapUpdate t (.map (some r)) (enc k) v).run P w = .ok () (mput w r o) ∧ MapB enc (mput w r o) r (mset k v m) := by
  have hl := h.lt
  obtain ⟨es, c, hb, hm, hborn, hnd⟩ := h
  have hf := run_find (P := P) K hkt k es.toList m w hm
  have hc := MapKept.run_checkKey (w := w) hkt (K.key k) false 9999
  have hlen : es.size = m.length := by have := congrArg List.length hm; simpa using this
  unfold Instr.mapUpdate
  rw [Sem.run_bind, run_underlying ht]
  simp only [Result.andThen_ok, Sem.run_bind, MapKept.run_getObj_map hb, Sem.run_pure]
  rw [show (10000 : Nat) = 9999 + 1 from rfl, hc]
  simp only [Result.andThen_ok, hf]
  cases hx : at? k m 0 with
  | none =>
    obtain ⟨_, h2, _⟩ := at_none k m 0 hx
    simp only []
    refine ⟨_, MapKept.run_setObj_map _ hb, es.push ⟨enc k, v, c⟩, c + 1, mput_at _ _ _ hl, ?_, ?_, ?_⟩
    · rw [h2]
      simp [hm]
    · intro x hx
      simp at hx
      rcases hx with hx | rfl
      · have := hborn x (by simpa using hx); omega
      · simp
    · simp only [Array.toList_push, List.map_append, List.map_cons, List.map_nil]
      rw [List.nodup_append]
      refine ⟨hnd, by simp, fun a ha b hb' => ?_⟩
      obtain ⟨x, hx, rfl⟩ := List.mem_map.1 ha
      have := hborn x hx
      simp at hb'
      omega
  | some x =>
    obtain ⟨j, u⟩ := x
    obtain ⟨_, a, h2, h3, h4, _⟩ := at_range k m 0 j u hx
    rw [Nat.sub_zero] at h2 h4
    have hj : j < es.size := by rw [hlen]; exact (List.getElem?_eq_some_iff.1 h2).1
    have hkey : es[j].key = enc k := by
      have := congrArg (fun l => l[j]?) hm
      simp [h2, hj] at this
      rw [this.1, h3]
    simp only []
    have hstay : (Instr.keyThatStays (((es[j]?).map (·.key)).getD (enc k)) (enc k)).run P w = .ok (enc k) w := by
      simp only [Array.getElem?_eq_getElem hj, Option.map_some, Option.getD_some, hkey, Instr.keyThatStays, K.bits, if_true, Sem.run_pure]
    simp only [Sem.run_bind, hstay, Result.andThen_ok]
    have hbo : ∀ f : MapEntry → MapEntry, (∀ x, (f x).born = x.born) → (es.modify j f).toList.map (·.born) = es.toList.map (·.born) := by
      intro f hf
      apply List.ext_getElem?
      intro i
      simp only [List.getElem?_map, Array.getElem?_toList, Array.getElem?_modify]
      by_cases hij : j = i
      · subst hij
        simp [hj, hf]
      · simp [hij]
    refine ⟨_, MapKept.run_setObj_map _ hb, _, c, mput_at _ _ _ hl, ?_, ?_, ?_⟩
    · rw [h4]
      apply List.ext_getElem?
      intro i
      have hi := congrArg (fun l => l[i]?) hm
      simp only [List.getElem?_map, Array.getElem?_toList] at hi
      simp only [List.getElem?_map, Array.getElem?_toList, Array.getElem?_modify, List.getElem?_set]
      by_cases hij : j = i
      · subst hij
        have hjm : j < m.length := by omega
        simp [hj, hjm]
      · simp [hij, hi]
    · intro x hx
      have hx2 := List.mem_map_of_mem (f := fun e : MapEntry => e.born) hx
      rw [hbo (fun e => ⟨enc k, v, e.born⟩) (fun x => rfl)] at hx2
      obtain ⟨y, hy, e⟩ := List.mem_map.1 hx2
      have := hborn y hy
      omega
    · rw [hbo (fun e => ⟨enc k, v, e.born⟩) (fun x => rfl)]
      exact hnd
end
end Go.Proofs.YtchgieogdinglaaGreat
