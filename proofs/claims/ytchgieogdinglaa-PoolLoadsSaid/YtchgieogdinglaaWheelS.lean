/- The sort of the timers that are due: slices.SortFunc at []timer. -/
import Derived.Test.YtchgieogdinglaaWheelC
set_option linter.unusedSimpArgs false
namespace Go.Proofs.Ytchgieogdinglaa
open Go.RowKit Go.Sort Go.Shelf
open Ser

/-- A timer whose count is small. -/
abbrev TB := { t : Tim // 0 ≤ t.2.2 ∧ t.2.2 < 4611686018427387904 }
instance : Inhabited TB := ⟨⟨(0, 0, 0), by decide⟩⟩
def TB.enc (x : TB) : List Value := [.int .i64 x.1.1, .int .i64 x.1.2.1, .int .i64 x.1.2.2]
def TB.cmp (x y : TB) : Int := x.1.2.2 - y.1.2.2
theorem tb_swo : SWO (ltOf TB.cmp) where
  irrefl x := by simp [ltOf, TB.cmp]
  trans x y z h1 h2 := by
    have h1' : x.1.2.2 - y.1.2.2 < 0 := of_decide_eq_true h1
    have h2' : y.1.2.2 - z.1.2.2 < 0 := of_decide_eq_true h2
    exact decide_eq_true (show x.1.2.2 - z.1.2.2 < 0 by omega)
  ntrans x y z h1 h2 := by
    have h1' : ¬ x.1.2.2 - y.1.2.2 < 0 := of_decide_eq_false h1
    have h2' : ¬ y.1.2.2 - z.1.2.2 < 0 := of_decide_eq_false h2
    exact decide_eq_false (show ¬ x.1.2.2 - z.1.2.2 < 0 by omega)

section
variable {α : Type} [Inhabited α]
theorem flat_at (enc : α → List Value) (k : Nat) (hk : ∀ x, (enc x).length = k) (k0 : 0 < k) : ∀ (L : List α) (t : Nat), t < L.length * k → (L.flatMap enc)[t]? = (enc L[t / k]!)[t % k]?
  | [], t, h => by simp at h
  | x :: L, t, h => by
    rw [List.flatMap_cons]
    by_cases ht : t < k
    · rw [List.getElem?_append_left (by rw [hk]; exact ht), Nat.div_eq_of_lt ht, Nat.mod_eq_of_lt ht]
      rfl
    · obtain ⟨u, rfl⟩ : ∃ u, t = u + k := ⟨t - k, by omega⟩
      have hu : u < L.length * k := by
        simp only [List.length_cons, Nat.add_mul, Nat.one_mul] at h
        omega
      rw [List.getElem?_append_right (by rw [hk]; omega), hk, Nat.add_sub_cancel, flat_at enc k hk k0 L u hu, Nat.add_div_right _ k0, Nat.add_mod_right]
      rfl
theorem flat_list (enc : α → List Value) (k : Nat) (hk : ∀ x, (enc x).length = k) (k0 : 0 < k) (L : List α) : (flatK enc k L.toArray).toList = L.flatMap enc := by
  have hl : (L.flatMap enc).length = L.length * k := by
    induction L with
    | nil => simp
    | cons x L ih => simp only [List.flatMap_cons, List.length_append, hk, ih, List.length_cons, Nat.add_mul]; omega
  apply List.ext_getElem?
  intro t
  by_cases ht : t < L.length * k
  · rw [flat_at enc k hk k0 L t ht]
    have h1 := get_flatK enc k L.toArray t (by simpa using ht)
    have h2 : t % k < (enc L[t / k]!).length := by rw [hk]; exact Nat.mod_lt _ k0
    rw [Array.getElem?_toList, Array.getElem?_eq_getElem (by simpa using ht), List.getElem?_eq_getElem h2]
    rw [getElem!_pos (flatK enc k L.toArray) t (by simpa using ht)] at h1
    rw [h1]
    have h3 : L.toArray[t / k]! = L[t / k]! := by simp
    rw [h3, getElem!_pos (enc L[t / k]!) _ h2]
  · rw [List.getElem?_eq_none (by simp; omega), List.getElem?_eq_none (by omega)]
end

/-- The slice value v holds the timers L, on a block of its own or nil. -/
def RT (w : World) (v : Value) (L : List TB) : Prop := w.ownsRow 0 82 3 v L.length (L.flatMap TB.enc)

theorem RT.cell {w : World} {L : List TB} {g cap : Nat} (h : RT w (.slice (some ⟨g, 0, none⟩) L.length cap) L) (i : Nat) (hi : i < L.length) :
    w.cell? ⟨g, i * 3, none⟩ = some (.int .i64 L[i]!.1.1) ∧ w.cell? ⟨g, i * 3 + 1, none⟩ = some (.int .i64 L[i]!.1.2.1) ∧ w.cell? ⟨g, i * 3 + 2, none⟩ = some (.int .i64 L[i]!.1.2.2) := by
  have key : ∀ c, (hc : c < 3) → w.cell? ⟨g, i * 3 + c, none⟩ = some ((L[i]!).enc[c]'(by simpa [TB.enc] using hc)) := by
    intro c hc
    have h1 := h.cells (g := g) rfl (i * 3 + c) ((L[i]!).enc[c]'(by simpa [TB.enc] using hc)) (by
      rw [flat_at TB.enc 3 (fun _ => rfl) (by omega) L _ (by omega), show (i * 3 + c) / 3 = i by omega, show (i * 3 + c) % 3 = c by omega, List.getElem?_eq_getElem])
    rwa [Addr.add_lit, Nat.zero_add] at h1
  exact ⟨key 0 (by omega), key 1 (by omega), key 2 (by omega)⟩

set_option maxHeartbeats 400000 in
theorem tick_cmp (x y : TB) (w : World) : Calls Try.prog 55 #[.agg x.enc.toArray, .agg y.enc.toArray] w fun e w' => e = .returned (.int .i64 (TB.cmp x y)) ∧ ∃ q os', w' = grow (w.drewN q) os' := by
  obtain ⟨⟨a1, a2, a3⟩, ha0, ha1⟩ := x
  obtain ⟨⟨b1, b2, b3⟩, hb0, hb1⟩ := y
  simp only at ha0 ha1 hb0 hb1
  simp only [TB.enc, TB.cmp]
  go_enter Try.func55, Try.ntmps55
  go_wp2
  go_ret
  refine ⟨rfl, 0, #[.cells #[.int .i64 a1, .int .i64 a2, .int .i64 a3] 82, .cells #[.int .i64 b1, .int .i64 b2, .int .i64 b3] 82], ?_⟩
  rw [alloc_eq_grow, alloc_eq_grow, grow_grow]
  rfl

theorem sorted_kept (w : World) (g m : Nat) (d : Array TB) (os : Array Obj) (hg : g < w.heap.size) : Kept (fun k => k = g) w (sortWorldK TB.enc 3 w g 0 m d os) := by
  refine ⟨rfl, rfl, rfl, size_sortWorldK_c _ _ _ _ _ _ _ _, fun k hk hne => ?_⟩
  unfold sortWorldK grow putRowK putRow mapBlock
  simp only [Array.getElem?_append]
  rw [if_pos (by simpa [Sort.ahead] using hk)]
  simp only [Sort.ahead, Array.getElem?_modify]
  rw [if_neg (fun e => hne e.symm)]

theorem sorted_row {w : World} {g cap n : Nat} {d : Array TB} {xs : List Value} (h : w.ownsRow 0 82 3 (.slice (some ⟨g, 0, none⟩) n cap) n xs) (hd : d.size = n) (m : Nat) (os : Array Obj) :
    RT (sortWorldK TB.enc 3 w g 0 m d os) (.slice (some ⟨g, 0, none⟩) d.toList.length cap) d.toList := by
  rcases h.2 with ⟨h1, _⟩ | ⟨g', cap', cur, h1, _, hg, h3, h4, h5, h6⟩
  · cases h1
  · have e1 : g' = g ∧ cap' = cap := by simpa [eq_comm] using h1
    obtain ⟨rfl, rfl⟩ := e1
    have hfl := flat_list TB.enc 3 (fun _ => rfl) (by omega) d.toList
    rw [Array.toArray_toList] at hfl
    have hsz : (flatK TB.enc 3 d).size = n * 3 := by rw [size_flatK, hd]
    unfold RT
    rw [← hfl]
    refine ⟨by simp, .inr ⟨g', cap', putCells id 0 (flatK TB.enc 3 d) cur, by simp, Nat.zero_le _, ?_, by simpa [hd] using h3, h4, by simpa [putCells] using h5, ?_⟩⟩
    · unfold sortWorldK grow putRowK putRow mapBlock
      have hlt : g' < w.heap.size := (Array.getElem?_eq_some_iff.1 hg).1
      simp only [Array.getElem?_append]
      rw [if_pos (by simpa [Sort.ahead] using hlt)]
      simp only [Sort.ahead, Array.getElem?_modify, if_true, hg, Option.map_some, onCells]
    · have hcn : n * 3 ≤ cur.size := by rw [h5]; exact Nat.mul_le_mul_right _ h3
      rw [Array.length_toList, hd]
      apply List.ext_getElem?
      intro t
      by_cases ht : t < n * 3
      · rw [List.getElem?_take_of_lt ht, Array.getElem?_toList, Array.getElem?_toList]
        simp only [putCells, Array.getElem?_mapIdx, Array.getElem?_eq_getElem (show t < cur.size by omega), Option.map_some, id]
        rw [if_pos (by omega), Nat.sub_zero, Array.getElem?_eq_getElem (by omega), getElem!_pos _ t (by omega)]
      · rw [List.getElem?_eq_none (by simp; omega), List.getElem?_eq_none (by simp [hd]; omega)]

/-- The sort: the same timers in another order, on the same block. -/
theorem tick_sort {w : World} {dv : Value} {L : List TB} (h : RT w dv L) (hL : L.length ≤ 1000) :
    Calls Try.prog 54 #[dv, .func (.func 55) #[] #[]] w fun e w' => e = .returned (.tuple #[]) ∧ ∃ L' : List TB, L'.Perm L ∧ RT w' dv L' ∧ Kept (fun k => dv.ownBlock = some k) w w' := by
  rcases h.2 with ⟨rfl, h2⟩ | ⟨g, cap, cur, rfl, _, hg, h3, h4, h5, h6⟩
  · obtain rfl : L = [] := List.eq_nil_of_length_eq_zero h2
    refine (AnyF.slices_SortFunc_none Try.sortTim none 0 (.func (.func 55) #[] #[]) w).mono ?_
    rintro e w' ⟨rfl, rfl⟩
    exact ⟨rfl, [], List.Perm.refl _, h, Kept.refl _ _⟩
  · have hlt : g < w.heap.size := (Array.getElem?_eq_some_iff.1 hg).1
    have hH : HoldsK TB.enc 3 w g 0 L.toArray := by
      intro t ht
      rw [size_flatK] at ht
      refine ⟨?_, Blk.frozen (t := 82) hg _⟩
      have h1 := h.cells (g := g) rfl t ((flatK TB.enc 3 L.toArray)[t]!) (by
        rw [← flat_list TB.enc 3 (fun _ => rfl) (by omega) L, Array.getElem?_toList, Array.getElem?_eq_getElem (by rw [size_flatK]; exact ht), getElem!_pos _ t (by rw [size_flatK]; exact ht)])
      rwa [Addr.add_lit] at h1
    have hc := AnyQ.slices_SortFunc Try.sortTim 3 Try.isAgg82 Try.sizeOf82 TB.enc (fun _ => rfl) (by intro x v hv; simp only [TB.enc, List.mem_cons, List.not_mem_nil, or_false] at hv; rcases hv with rfl | rfl | rfl <;> rfl) TB.cmp tb_swo 55 #[] g 0 cap L.toArray w
      (fun _ _ => rfl) (fun _ _ _ _ x y => tick_cmp x y _) hH hlt (by simp; omega)
    rw [show L.toArray.size = L.length from by simp] at hc
    refine hc.mono ?_
    rintro e w' ⟨rfl, d', n, os, hp, _, rfl⟩
    have hds : d'.size = L.length := by have := hp.1; simpa using this
    have hperm : d'.toList.Perm L := by
      have := hp.2.2
      rw [Array.extract_eq_self_of_le (by simp [hds]), Array.extract_eq_self_of_le (by simp)] at this
      simpa using this
    refine ⟨rfl, d'.toList, hperm, ?_, (sorted_kept w g n d' os hlt).mono (fun k _ e => by rw [e]; rfl)⟩
    have := sorted_row h hds n os
    rwa [Array.length_toList, hds] at this
end Go.Proofs.Ytchgieogdinglaa
