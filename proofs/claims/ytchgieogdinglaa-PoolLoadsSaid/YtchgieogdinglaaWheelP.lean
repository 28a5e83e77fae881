/- The wheel of timers, in plain lists: what it holds, and what its calls do to that. No program in sight. -/
import Derived.Test.YtchgieogdinglaaLaws
namespace Go.Proofs.Ytchgieogdinglaa
open Go.RowKit

/-- A timer: its number, when it is due, how many were set ahead of it. -/
abbrev Tim := Int × Int × Int
def Tim.val (t : Tim) : Value := .agg #[.int .i64 t.1, .int .i64 t.2.1, .int .i64 t.2.2]
def tv (t : Tim) : Int × Value := (t.1, t.val)
def tlook (id : Int) : List Tim → Option (Int × Int)
  | [] => none
  | t :: r => if id = t.1 then some t.2 else tlook id r
def tdel (id : Int) : List Tim → List Tim
  | [] => []
  | t :: r => if id = t.1 then r else t :: tdel id r

theorem look_tv (id : Int) : ∀ ts : List Tim, look id (ts.map tv) = (tlook id ts).map fun p => Tim.val (id, p)
  | [] => rfl
  | t :: r => by
    simp only [List.map_cons, tv, look, tlook]
    by_cases h : id = t.1
    · subst h; simp
    · simp only [h, if_false]; exact look_tv id r
theorem mdel_tv (id : Int) : ∀ ts : List Tim, mdel id (ts.map tv) = (tdel id ts).map tv
  | [] => rfl
  | t :: r => by
    simp only [List.map_cons, tv, mdel, tdel]
    by_cases h : id = t.1
    · subst h; simp
    · simp only [h, if_false, List.map_cons, tv]
      rw [mdel_tv id r]
theorem mset_tv (id at_ od : Int) : ∀ ts : List Tim, tlook id ts = none → mset id (Tim.val (id, at_, od)) (ts.map tv) = (ts ++ [(id, at_, od)]).map tv
  | [], _ => rfl
  | t :: r, h => by
    simp only [tlook] at h
    by_cases hi : id = t.1
    · simp [hi] at h
    · simp only [hi, if_false] at h
      simp only [List.map_cons, tv, mset, hi, if_false, List.cons_append]
      rw [mset_tv id at_ od r h]
theorem mem_tdel {id : Int} {t : Tim} : ∀ {ts : List Tim}, t ∈ tdel id ts → t ∈ ts
  | [], h => h
  | u :: r, h => by
    simp only [tdel] at h
    split at h
    · exact List.mem_cons_of_mem _ h
    · rcases List.mem_cons.1 h with rfl | h
      · exact List.mem_cons_self
      · exact List.mem_cons_of_mem _ (mem_tdel h)
theorem tlook_none {id : Int} : ∀ {ts : List Tim}, tlook id ts = none ↔ ∀ t ∈ ts, t.1 ≠ id
  | [] => by simp [tlook]
  | u :: r => by
    simp only [tlook]
    by_cases h : id = u.1
    · simp [h]
    · simp only [h, if_false, tlook_none (ts := r), List.forall_mem_cons]
      exact ⟨fun x => ⟨fun e => h e.symm, x⟩, fun x => x.2⟩
theorem tlook_some {id : Int} {p : Int × Int} : ∀ {ts : List Tim}, tlook id ts = some p → (id, p) ∈ ts
  | [], h => by simp [tlook] at h
  | u :: r, h => by
    simp only [tlook] at h
    by_cases hi : id = u.1
    · simp only [hi, if_true, Option.some.injEq] at h
      subst hi; subst h
      exact List.mem_cons_self
    · simp only [hi, if_false] at h
      exact List.mem_cons_of_mem _ (tlook_some h)
def ids (ts : List Tim) : List Int := ts.map (·.1)
theorem tlook_mem {ts : List Tim} (hn : (ids ts).Nodup) {t : Tim} (h : t ∈ ts) : tlook t.1 ts = some t.2 := by
  induction ts with
  | nil => cases h
  | cons u r ih =>
    simp only [ids, List.map_cons, List.nodup_cons] at hn
    simp only [tlook]
    rcases List.mem_cons.1 h with rfl | h
    · simp
    · have hne : t.1 ≠ u.1 := fun e => hn.1 (List.mem_map.2 ⟨t, h, e⟩)
      simp only [hne, if_false]
      exact ih hn.2 h
theorem tdel_none {id : Int} : ∀ {ts : List Tim}, tlook id ts = none → tdel id ts = ts
  | [], _ => rfl
  | u :: r, h => by
    simp only [tlook] at h
    by_cases hi : id = u.1
    · simp [hi] at h
    · simp only [hi, if_false] at h
      simp only [tdel, hi, if_false, tdel_none h]
theorem mem_tdel_iff {ts : List Tim} (hn : (ids ts).Nodup) {id : Int} {t : Tim} : t ∈ tdel id ts ↔ t ∈ ts ∧ t.1 ≠ id := by
  induction ts with
  | nil => simp [tdel]
  | cons u r ih =>
    simp only [ids, List.map_cons, List.nodup_cons] at hn
    simp only [tdel]
    by_cases hi : id = u.1
    · simp only [hi, if_true, List.mem_cons]
      constructor
      · intro h
        exact ⟨.inr h, fun e => hn.1 (List.mem_map.2 ⟨t, h, e⟩)⟩
      · rintro ⟨rfl | h, hne⟩
        · exact absurd rfl hne
        · exact h
    · simp only [hi, if_false, List.mem_cons, ih hn.2]
      constructor
      · rintro (rfl | ⟨h, hne⟩)
        · exact ⟨.inl rfl, fun e => hi e.symm⟩
        · exact ⟨.inr h, hne⟩
      · rintro ⟨rfl | h, hne⟩
        · exact .inl rfl
        · exact .inr ⟨h, hne⟩
theorem ids_tdel {ts : List Tim} (hn : (ids ts).Nodup) (id : Int) : (ids (tdel id ts)).Nodup := by
  induction ts with
  | nil => exact hn
  | cons u r ih =>
    simp only [ids, List.map_cons, List.nodup_cons] at hn
    simp only [tdel]
    split
    · exact hn.2
    · simp only [ids, List.map_cons, List.nodup_cons]
      refine ⟨fun h => ?_, ih hn.2⟩
      obtain ⟨t, ht, e⟩ := List.mem_map.1 h
      exact hn.1 (List.mem_map.2 ⟨t, mem_tdel ht, e⟩)

/-- What holds of a wheel at any time: N bounds its numbers. -/
structure WOk (now set : Int) (ts : List Tim) (sl : List (List Int)) : Prop where
  now0 : 0 ≤ now
  set0 : 0 ≤ set
  len : sl.length = 64
  nodup : (ids ts).Nodup
  timer : ∀ t ∈ ts, 0 ≤ t.1 ∧ t.1 < 1000 ∧ now < t.2.1 ∧ t.2.1 ≤ now + 1073741824 ∧ 0 ≤ t.2.2 ∧ t.2.2 < set
  rows : ∀ s, s < 64 → (sl.getD s []).Nodup
  both : ∀ s, s < 64 → ∀ id, id ∈ sl.getD s [] ↔ ∃ t ∈ ts, t.1 = id ∧ (t.2.1 % 64).toNat = s

/-- The slots without a number. -/
def sdel (id at_ : Int) (sl : List (List Int)) : List (List Int) := sl.set (at_ % 64).toNat ((sl.getD (at_ % 64).toNat []).erase id)
def sadd (id at_ : Int) (sl : List (List Int)) : List (List Int) := sl.set (at_ % 64).toNat (sl.getD (at_ % 64).toNat [] ++ [id])

theorem slot_lt (at_ : Int) : (at_ % 64).toNat < 64 := by omega
theorem getD_set (sl : List (List Int)) (i s : Nat) (x : List Int) (hi : i < sl.length) : (sl.set i x).getD s [] = if i = s then x else sl.getD s [] := by
  simp only [List.getD_eq_getElem?_getD, List.getElem?_set]
  by_cases h : i = s
  · subst h; simp [hi]
  · simp [h]

theorem WOk.del {now set : Int} {ts : List Tim} {sl : List (List Int)} (h : WOk now set ts sl) {id at_ od : Int} (hl : tlook id ts = some (at_, od)) : WOk now set (tdel id ts) (sdel id at_ sl) := by
  have hm := tlook_some hl
  have hlen : (at_ % 64).toNat < sl.length := by rw [h.len]; exact slot_lt _
  refine ⟨h.now0, h.set0, by simp [sdel, h.len], ids_tdel h.nodup id, fun t ht => h.timer t (mem_tdel ht), fun s hs => ?_, fun s hs x => ?_⟩
  · unfold sdel
    rw [getD_set _ _ _ _ hlen]
    split
    · exact (h.rows _ (slot_lt _)).erase _
    · exact h.rows s hs
  · unfold sdel
    rw [getD_set _ _ _ _ hlen]
    split
    · rename_i e
      subst e
      rw [(h.rows _ (slot_lt at_)).mem_erase_iff, h.both _ (slot_lt _)]
      constructor
      · rintro ⟨hne, t, ht, rfl, hs⟩
        exact ⟨t, (mem_tdel_iff h.nodup).2 ⟨ht, hne⟩, rfl, hs⟩
      · rintro ⟨t, ht, rfl, hs⟩
        obtain ⟨h1, h2⟩ := (mem_tdel_iff h.nodup).1 ht
        exact ⟨h2, t, h1, rfl, hs⟩
    · rename_i hne
      rw [h.both s hs]
      constructor
      · rintro ⟨t, ht, rfl, hs'⟩
        refine ⟨t, (mem_tdel_iff h.nodup).2 ⟨ht, fun e => ?_⟩, rfl, hs'⟩
        have := tlook_mem h.nodup ht
        rw [e, hl] at this
        injection this with this
        rw [← this] at hs'
        exact hne hs'
      · rintro ⟨t, ht, rfl, hs'⟩
        exact ⟨t, mem_tdel ht, rfl, hs'⟩

theorem WOk.add {now set : Int} {ts : List Tim} {sl : List (List Int)} (h : WOk now set ts sl) {id after : Int} (hl : tlook id ts = none) (h0 : 0 ≤ id) (h1 : id < 1000) (a0 : 1 ≤ after) (a1 : after ≤ 1073741824) :
    WOk now (set + 1) (ts ++ [(id, now + after, set)]) (sadd id (now + after) sl) := by
  have hlen : ((now + after) % 64).toNat < sl.length := by rw [h.len]; exact slot_lt _
  have hn := tlook_none.1 hl
  have n0 := h.now0
  have s0 := h.set0
  have hx : ∀ s, s < 64 → id ∉ sl.getD s [] := fun s hs hm => by
    obtain ⟨t, ht, e, _⟩ := (h.both s hs id).1 hm
    exact hn t ht e
  refine ⟨h.now0, by omega, by simp [sadd, h.len], ?_, fun t ht => ?_, fun s hs => ?_, fun s hs x => ?_⟩
  · unfold ids
    rw [List.map_append, List.nodup_append]
    refine ⟨h.nodup, by simp, ?_⟩
    intro a ha b hb e
    obtain ⟨t, ht, rfl⟩ := List.mem_map.1 ha
    simp at hb
    subst hb
    exact hn t ht e
  · rcases List.mem_append.1 ht with ht | ht
    · have := h.timer t ht
      omega
    · simp at ht
      subst ht
      simp only
      omega
  · unfold sadd
    rw [getD_set _ _ _ _ hlen]
    split
    · rw [List.nodup_append]
      refine ⟨h.rows _ (slot_lt _), by simp, ?_⟩
      intro a ha b hb e
      simp at hb
      subst hb
      subst e
      exact hx _ (slot_lt _) ha
    · exact h.rows s hs
  · unfold sadd
    rw [getD_set _ _ _ _ hlen]
    have key : (∃ t ∈ ts ++ [(id, now + after, set)], t.1 = x ∧ (t.2.1 % 64).toNat = s) ↔ ((∃ t ∈ ts, t.1 = x ∧ (t.2.1 % 64).toNat = s) ∨ (id = x ∧ ((now + after) % 64).toNat = s)) := by
      constructor
      · rintro ⟨t, ht, h2⟩
        rcases List.mem_append.1 ht with ht | ht
        · exact .inl ⟨t, ht, h2⟩
        · simp at ht
          subst ht
          exact .inr h2
      · rintro (⟨t, ht, h2⟩ | h2)
        · exact ⟨t, List.mem_append_left _ ht, h2⟩
        · exact ⟨(id, now + after, set), List.mem_append_right _ (by simp), h2⟩
    rw [key, ← h.both s hs]
    split
    · rename_i e
      subst e
      simp [eq_comm]
    · rename_i hne
      constructor
      · exact .inl
      · rintro (h2 | h2)
        · exact h2
        · exact absurd h2.2 hne
end Go.Proofs.Ytchgieogdinglaa
