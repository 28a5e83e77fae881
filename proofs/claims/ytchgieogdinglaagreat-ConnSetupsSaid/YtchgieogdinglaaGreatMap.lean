/- A map that is known whole, entry by entry: what look-up, store, delete and len do to it, whatever the elements are. -/
import Derived.Test.YtchgieogdinglaaGreatBase
import Derived.MapKept
set_option linter.unusedSimpArgs false
namespace Go.Proofs.YtchgieogdinglaaGreat
open Go.RowKit

/-- How keys are laid: apart by the model's own quick comparison. -/
structure KeyEnc {κ : Type} [DecidableEq κ] (d : TypeDesc) (enc : κ → Value) : Prop where
  same : ∀ a b, Instr.sameNow d (enc a) (enc b) = some (decide (a = b))
  key : ∀ a, MapKept.IsKey d (enc a)
  bits : ∀ a, Instr.sameBits 10000 (enc a) (enc a) = true

def encI (n : Int) : Value := .int .i64 n
theorem keyI : KeyEnc (.int .i64) encI where
  same a b := by
    simp only [encI, Instr.sameNow, if_true, Option.some.injEq]
    rw [Bool.eq_iff_iff]
    simp
  key a := by simp [MapKept.IsKey, encI]
  bits a := by simp [encI, Instr.sameBits]

def look {κ : Type} [DecidableEq κ] (k : κ) : List (κ × Value) → Option Value
  | [] => none
  | (a, v) :: r => if k = a then some v else look k r
def mset {κ : Type} [DecidableEq κ] (k : κ) (u : Value) : List (κ × Value) → List (κ × Value)
  | [] => [(k, u)]
  | (a, v) :: r => if k = a then (a, u) :: r else (a, v) :: mset k u r
def mdel {κ : Type} [DecidableEq κ] (k : κ) : List (κ × Value) → List (κ × Value)
  | [] => []
  | (a, v) :: r => if k = a then r else (a, v) :: mdel k r
def at? {κ : Type} [DecidableEq κ] (k : κ) : List (κ × Value) → Nat → Option (Nat × Value)
  | [], _ => none
  | (a, v) :: r, i => if k = a then some (i, v) else at? k r (i + 1)

/-- Block r is a map of these entries. -/
def IsMap {κ : Type} (enc : κ → Value) (w : World) (r : Nat) (m : List (κ × Value)) : Prop :=
  ∃ es clock, w.heap[r]? = some (.map es clock) ∧ es.toList.map (fun e => (e.key, e.val)) = m.map fun p => (enc p.1, p.2)

/-- The world with another object in block r. -/
def mput (w : World) (r : Nat) (o : Obj) : World := { w with heap := w.heap.setIfInBounds r o }
theorem mput_at (w : World) (r : Nat) (o : Obj) (h : r < w.heap.size) : (mput w r o).heap[r]? = some o := by simp [mput, h]
theorem mput_far (w : World) (r : Nat) (o : Obj) (k : Nat) (h : k ≠ r) : (mput w r o).heap[k]? = w.heap[k]? := by simp [mput, Array.getElem?_setIfInBounds, Ne.symm h]
theorem mput_size (w : World) (r : Nat) (o : Obj) : (mput w r o).heap.size = w.heap.size := by simp [mput]
theorem Kept.mput_ (w : World) (r : Nat) (o : Obj) : Kept (· = r) w (mput w r o) := ⟨rfl, rfl, rfl, by rw [mput_size]; exact Nat.le_refl _, fun k _ hk => mput_far w r o k hk⟩

section
variable {κ : Type} {enc : κ → Value}
theorem IsMap.lt {w : World} {r : Nat} {m : List (κ × Value)} (h : IsMap enc w r m) : r < w.heap.size := by
  obtain ⟨es, c, hb, _⟩ := h
  exact (Array.getElem?_eq_some_iff.1 hb).1
theorem IsMap.kept {F : Nat → Prop} {w w1 : World} {r : Nat} {m : List (κ × Value)} (h : IsMap enc w r m) (k : Kept F w w1) (hr : ¬ F r) : IsMap enc w1 r m := by
  have hl := h.lt
  obtain ⟨es, c, hb, hm⟩ := h
  exact ⟨es, c, (k.block r hl hr).trans hb, hm⟩
theorem IsMap.alloc {w : World} {r : Nat} {m : List (κ × Value)} (h : IsMap enc w r m) (o : Obj) : IsMap enc (w.alloc o) r m := h.kept (F := fun _ => False) ((Kept.refl _ _).alloc o) (fun x => x)
theorem IsMap.drew {w : World} {r : Nat} {m : List (κ × Value)} (h : IsMap enc w r m) : IsMap enc w.drew r m := h
theorem IsMap.new (enc : κ → Value) (w : World) : IsMap enc (w.alloc (.map #[] 0)) w.heap.size [] := ⟨#[], 0, heap_alloc_new w _, rfl⟩
theorem IsMap.ne_blk {w : World} {r g : Nat} {m : List (κ × Value)} {t : TypeId} {cs : Array Value} (h : IsMap enc w r m) (hb : Blk w g t cs) : r ≠ g := by
  rintro rfl
  obtain ⟨es, c, h1, _⟩ := h
  unfold Blk at hb
  rw [hb] at h1
  cases h1

theorem run_mlen {P : Program} {t kt e ty : TypeId} (ht : P.underlying t = some (.map kt e)) {w : World} {r : Nat} {m : List (κ × Value)} (h : IsMap enc w r m) (ats : Array TypeId) (ha : ats[0]? = some t) :
    (Builtin.len_ ats ty #[.map (some r)]).run P w = .ok (.int .i64 m.length) w := by
  obtain ⟨es, c, hb, hm⟩ := h
  have hlen : es.size = m.length := by have := congrArg List.length hm; simpa using this
  unfold Builtin.len_
  simp only [ha, List.getElem?_toArray, List.getElem?_cons_zero]
  rw [Sem.run_bind, run_underlying ht]
  simp only [Result.andThen_ok, Sem.run_bind, MapKept.run_getObj_map hb, Sem.run_pure, goInt, hlen]
end

section
variable {κ : Type} [DecidableEq κ] {d : TypeDesc} {enc : κ → Value} {P : Program}
theorem find_at (K : KeyEnc d enc) (k : κ) : ∀ (es : List MapEntry) (m : List (κ × Value)) (i : Nat), es.map (fun e => (e.key, e.val)) = m.map (fun p => (enc p.1, p.2)) → Instr.findNow d (enc k) es i = some (at? k m i)
  | [], [], _, _ => rfl
  | [], _ :: _, _, h => by cases h
  | _ :: _, [], _, h => by cases h
  | e :: es, (a, v) :: m, i, h => by
    simp only [List.map_cons, List.cons.injEq, Prod.mk.injEq] at h
    obtain ⟨⟨h1, h2⟩, h3⟩ := h
    unfold Instr.findNow at?
    rw [h1, K.same]
    by_cases hk : k = a
    · simp only [hk, decide_true, if_true, h2]
    · simp only [hk, decide_false, if_false]
      exact find_at K k es m (i + 1) h3
theorem at_look (k : κ) : ∀ (m : List (κ × Value)) (i : Nat), (at? k m i).map (·.2) = look k m
  | [], _ => rfl
  | (a, v) :: m, i => by
    unfold at? look
    split
    · rfl
    · exact at_look k m (i + 1)
theorem at_range (k : κ) : ∀ (m : List (κ × Value)) (i j : Nat) (v : Value), at? k m i = some (j, v) → i ≤ j ∧ ∃ a, m[j - i]? = some (a, v) ∧ a = k ∧ (∀ u, mset k u m = m.set (j - i) (k, u)) ∧ mdel k m = m.eraseIdx (j - i)
  | [], _, _, _, h => by cases h
  | (a, v) :: m, i, j, u, h => by
    unfold at? at h
    split at h
    · rename_i hk
      simp only [Option.some.injEq, Prod.mk.injEq] at h
      obtain ⟨rfl, rfl⟩ := h
      refine ⟨Nat.le_refl _, a, by simp, hk.symm, fun u => ?_, ?_⟩
      · simp [mset, hk]
      · simp [mdel, hk]
    · rename_i hk
      obtain ⟨h1, b, h2, h3, h4, h5⟩ := at_range k m (i + 1) j u h
      have e : j - i = (j - (i + 1)) + 1 := by omega
      refine ⟨by omega, b, by rw [e]; simpa using h2, h3, fun u' => ?_, ?_⟩
      · rw [e]; simp [mset, hk, h4]
      · rw [e]; simp [mdel, hk, h5]
theorem at_none (k : κ) : ∀ (m : List (κ × Value)) (i : Nat), at? k m i = none → look k m = none ∧ (∀ u, mset k u m = m ++ [(k, u)]) ∧ mdel k m = m
  | [], _, _ => ⟨rfl, fun _ => rfl, rfl⟩
  | (a, v) :: m, i, h => by
    unfold at? at h
    split at h
    · cases h
    · rename_i hk
      obtain ⟨h1, h2, h3⟩ := at_none k m (i + 1) h
      exact ⟨by simp [look, hk, h1], fun u => by simp [mset, hk, h2], by simp [mdel, hk, h3]⟩

theorem run_find (K : KeyEnc d enc) {kt : TypeId} (hkt : P.underlying kt = some d) (k : κ) (es : List MapEntry) (m : List (κ × Value)) (w : World) (h : es.map (fun e => (e.key, e.val)) = m.map (fun p => (enc p.1, p.2))) :
    (Instr.findKey kt (enc k) es).run P w = .ok (at? k m 0) w := by
  unfold Instr.findKey
  rw [Sem.run_bind, run_underlying hkt]
  simp only [Result.andThen_ok]
  rw [find_at K k es m 0 h]
  rfl

theorem run_look (K : KeyEnc d enc) {t kt e : TypeId} (ht : P.underlying t = some (.map kt e)) (hkt : P.underlying kt = some d) {z : Value} (hz : ∀ w, (zeroValue e).run P w = .ok z w) {w : World} {r : Nat} {m : List (κ × Value)} (h : IsMap enc w r m) (k : κ) (ok : Bool) :
    (Instr.lookup t (.map (some r)) (enc k) ok).run P w = .ok (if ok then .tuple #[(look k m).getD z, .bool (look k m).isSome] else (look k m).getD z) w := by
  obtain ⟨es, c, hb, hm⟩ := h
  have hf := run_find (P := P) K hkt k es.toList m w hm
  have hc := MapKept.run_checkKey (w := w) hkt (K.key k) es.isEmpty 9999
  unfold Instr.lookup
  rw [Sem.run_bind, run_underlying ht]
  simp only [Result.andThen_ok, Sem.run_bind, MapKept.run_getObj_map hb, Sem.run_pure]
  rw [show (10000 : Nat) = 9999 + 1 from rfl, hc]
  simp only [Result.andThen_ok, hf]
  rw [← at_look k m 0]
  cases at? k m 0 with
  | none => cases ok <;> simp [hz]
  | some x => cases ok <;> simp

theorem run_mset (K : KeyEnc d enc) {t kt e : TypeId} (ht : P.underlying t = some (.map kt e)) (hkt : P.underlying kt = some d) {w : World} {r : Nat} {m : List (κ × Value)} (h : IsMap enc w r m) (k : κ) (v : Value) :
    ∃ o, (Instr.mapUpdate t (.map (some r)) (enc k) v).run P w = .ok () (mput w r o) ∧ IsMap enc (mput w r o) r (mset k v m) := by
  have hl := h.lt
  obtain ⟨es, c, hb, hm⟩ := h
  have hf := run_find (P := P) K hkt k es.toList m w hm
  have hc := MapKept.run_checkKey (w := w) hkt (K.key k) false 9999
  have hlen : es.size = m.length := by have := congrArg List.length hm; simpa using this
  unfold Instr.mapUpdate
  rw [Sem.run_bind, run_underlying ht]
  simp only [Result.andThen_ok, Sem.run_bind, MapKept.run_getObj_map hb, Sem.run_pure]
  rw [show (10000 : Nat) = 9999 + 1 from rfl, hc]
  simp only [Result.andThen_ok, hf]
  cases hx : at? k m 0 with
  | none =>
    obtain ⟨_, h2, _⟩ := at_none k m 0 hx
    simp only []
    refine ⟨_, MapKept.run_setObj_map _ hb, es.push ⟨enc k, v, c⟩, c + 1, mput_at _ _ _ hl, ?_⟩
    rw [h2]
    simp [hm]
  | some x =>
    obtain ⟨j, u⟩ := x
    obtain ⟨_, a, h2, h3, h4, _⟩ := at_range k m 0 j u hx
    rw [Nat.sub_zero] at h2 h4
    have hj : j < es.size := by rw [hlen]; exact (List.getElem?_eq_some_iff.1 h2).1
    have hkey : es[j].key = enc k := by
      have := congrArg (fun l => l[j]?) hm
      simp [h2, hj] at this
      rw [this.1, h3]
    simp only []
    have hstay : (Instr.keyThatStays (((es[j]?).map (·.key)).getD (enc k)) (enc k)).run P w = .ok (enc k) w := by
      simp only [Array.getElem?_eq_getElem hj, Option.map_some, Option.getD_some, hkey, Instr.keyThatStays, K.bits, if_true, Sem.run_pure]
    simp only [Sem.run_bind, hstay, Result.andThen_ok]
    refine ⟨_, MapKept.run_setObj_map _ hb, _, c, mput_at _ _ _ hl, ?_⟩
    rw [h4]
    apply List.ext_getElem?
    intro i
    have hi := congrArg (fun l => l[i]?) hm
    simp only [List.getElem?_map, Array.getElem?_toList] at hi
    simp only [List.getElem?_map, Array.getElem?_toList, Array.getElem?_modify, List.getElem?_set]
    by_cases hij : j = i
    · subst hij
      have hjm : j < m.length := by omega
      simp [hj, hjm]
    · simp [hij, hi]

theorem run_mdel (K : KeyEnc d enc) {t kt e ty : TypeId} (ht : P.underlying t = some (.map kt e)) (hkt : P.underlying kt = some d) {w : World} {r : Nat} {m : List (κ × Value)} (h : IsMap enc w r m) (k : κ) (ats : Array TypeId) (ha : ats[0]? = some t) :
    ∃ o, (Builtin.delete_ ats ty #[.map (some r), enc k]).run P w = .ok (.tuple #[]) (mput w r o) ∧ IsMap enc (mput w r o) r (mdel k m) := by
  have hl := h.lt
  obtain ⟨es, c, hb, hm⟩ := h
  have hf := run_find (P := P) K hkt k es.toList m w hm
  have hc := MapKept.run_checkKey (w := w) hkt (K.key k) es.isEmpty 9999
  have hlen : es.size = m.length := by have := congrArg List.length hm; simpa using this
  unfold Builtin.delete_
  simp only [ha, List.getElem?_toArray, List.getElem?_cons_zero, List.getElem?_cons_succ]
  rw [Sem.run_bind, run_underlying ht]
  simp only [Result.andThen_ok, Sem.run_bind, MapKept.run_getObj_map hb, Sem.run_pure]
  rw [show (10000 : Nat) = 9999 + 1 from rfl, hc]
  simp only [Result.andThen_ok, hf]
  cases hx : at? k m 0 with
  | none =>
    obtain ⟨_, _, h2⟩ := at_none k m 0 hx
    refine ⟨.map es c, ?_, es, c, mput_at _ _ _ hl, by rw [h2]; exact hm⟩
    simp only [Sem.run_bind, MapKept.run_setObj_map _ hb, Result.andThen_ok, Sem.run_pure]
    rfl
  | some x =>
    obtain ⟨j, u⟩ := x
    obtain ⟨_, a, h2, h3, _, h4⟩ := at_range k m 0 j u hx
    rw [Nat.sub_zero] at h2 h4
    have hj : j < es.size := by rw [hlen]; exact (List.getElem?_eq_some_iff.1 h2).1
    refine ⟨.map (es.eraseIdxIfInBounds j) c, ?_, es.eraseIdxIfInBounds j, c, mput_at _ _ _ hl, ?_⟩
    · simp only [Sem.run_bind, MapKept.run_setObj_map _ hb, Result.andThen_ok, Sem.run_pure]
      rfl
    rw [h4]
    simp only [Array.eraseIdxIfInBounds, hj, dif_pos, Array.toList_eraseIdx]
    have em : ∀ {α β : Type} (f : α → β) (l : List α) (n : Nat), (l.eraseIdx n).map f = (l.map f).eraseIdx n := by
      intro α β f l
      induction l with
      | nil => intro n; rfl
      | cons x l ih =>
        intro n
        cases n with
        | zero => rfl
        | succ n => simp [ih]
    rw [em, em, hm]

end
end Go.Proofs.YtchgieogdinglaaGreat
