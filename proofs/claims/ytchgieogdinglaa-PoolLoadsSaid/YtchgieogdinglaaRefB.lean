/- The reference's wheel: find, Cancel, Set, Tick, New. They do not panic, and keep its form. -/
import Derived.Test.YtchgieogdinglaaRefA
set_option linter.unusedSimpArgs false
set_option linter.unusedVariables false
namespace Go.Proofs.Ytchgieogdinglaa
open Go.RowKit
open Ser

/-- A timer of the reference's: its number, when it is due. -/
abbrev Rt := Int × Int
def Rt.enc (t : Rt) : List Value := [.int .i64 t.1, .int .i64 t.2]
theorem Rt.enc_len (t : Rt) : (Rt.enc t).length = 2 := rfl

/-- The reference's wheel, laid open. -/
structure RW (w : World) (rb n : Nat) (K : Int) (N : Int) (lv : Value) (L : List Rt) : Prop where
  b : Blk w rb 88 #[.int .i64 N, lv]
  r : RS 90 2 Rt.enc w lv L
  n0 : 0 ≤ N
  nK : N ≤ K
  n1 : n ≤ 1000
  nd : (L.map (·.1)).Nodup
  i : ∀ t ∈ L, 0 ≤ t.1 ∧ t.1 < n

section
variable {w w1 : World} {rb n : Nat} {K N : Int} {lv : Value} {L : List Rt}
theorem RW.len (h : RW w rb n K N lv L) : L.length ≤ 1000 := by
  have := nodup_bound n _ h.nd fun x hx => by
    obtain ⟨t, ht, rfl⟩ := List.mem_map.1 hx
    exact h.i t ht
  have := h.n1
  simp at *
  omega
theorem RW.c0 (h : RW w rb n K N lv L) : w.cell? ⟨rb, 0, none⟩ = some (.int .i64 N) := (Blk.cell h.b 0).trans rfl
theorem RW.c1 (h : RW w rb n K N lv L) : w.cell? ⟨rb, 1, none⟩ = some lv := (Blk.cell h.b 1).trans rfl
theorem RW.ne (h : RW w rb n K N lv L) : lv.ownBlock ≠ some rb := h.r.ne_blk h.b (by decide)
theorem RW.kept {F : Nat → Prop} (h : RW w rb n K N lv L) (k : Kept F w w1) (hb : ¬ F rb) (hl : ∀ q, lv.ownBlock = some q → ¬ F q) : RW w1 rb n K N lv L := ⟨h.b.kept k hb, h.r.kept k hl, h.n0, h.nK, h.n1, h.nd, h.i⟩
theorem RW.more {K' : Int} (h : RW w rb n K N lv L) (hK : K ≤ K') : RW w rb n K' N lv L := ⟨h.b, h.r, h.n0, by have := h.nK; omega, h.n1, h.nd, h.i⟩

def FindR (L : List Rt) (id : Int) (i : Value) : Prop := ∃ j : Nat, j ≤ L.length ∧ i = .int .i64 j ∧ ∀ t ∈ L.take j, t.1 ≠ id
def Found (w : World) (L : List Rt) (id : Int) (e : Ending) (w' : World) : Prop := ∃ i : Int, e = .returned (.int .i64 i) ∧ ((i = -1 ∧ ∀ t ∈ L, t.1 ≠ id) ∨ (0 ≤ i ∧ i < L.length ∧ (L[i.toNat]?).map (·.1) = some id)) ∧ w = w'
set_option maxHeartbeats 1000000 in
theorem ref_find (h : RW w rb n K N lv L) (id : Int) : Calls Try.prog 41 #[.pointer (some ⟨rb, 0, none⟩), .int .i64 id] w (Found w L id) := by
  obtain ⟨ao, cap, rfl, hao⟩ := h.r.form
  have c1 := h.c1
  have hl := h.len
  have H := Lib.hid h
  have HAO := Lib.hid hao
  clear h hao
  go_enter Try.func41, Try.ntmps41
  go_wp2_with fail
  go_loop [5] (FindR L id) (fun i => L.length - (intOf i).toNat)
  case atStart => exact ⟨0, Nat.zero_le _, rfl, by simp⟩
  obtain ⟨j, hj, rfl, hnt⟩ := hrel
  have HNT := Lib.hid hnt
  clear hnt
  rcases Nat.lt_or_ge j L.length with hlt | hge
  · obtain ⟨g, rfl⟩ := HAO.out (by omega)
    have d0 := RS.cell Rt.enc_len H.out.r j 0 hlt (by omega) (.int .i64 L[j].1) rfl
    rw [Nat.add_zero] at d0
    obtain ⟨x, hx⟩ : ∃ x, L[j].1 = x := ⟨_, rfl⟩
    rw [hx] at d0
    have HX := Lib.hid hx
    clear hx
    by_cases he : x = id
    · have eb : (x == id) = true := by simpa using he
      have HE := Lib.hid he
      clear he
      go_wp2_with fail
      go_ret
      exact ⟨j, rfl, .inr ⟨by omega, by omega, by rw [Int.toNat_natCast, List.getElem?_eq_getElem hlt, Option.map_some, HX.out, HE.out]⟩, rfl⟩
    · have eb : (x == id) = false := by simpa using he
      clear he
      have HR := Lib.hid (show FindR L id (.int .i64 ((j : Int) + 1)) from ⟨j + 1, hlt, by simp, fun t ht => by
        rw [List.take_succ_eq_append_getElem hlt] at ht
        rcases List.mem_append.1 ht with h | h
        · exact HNT.out t h
        · simp only [List.mem_singleton] at h
          rw [h, HX.out]
          exact fun e => by simp [e] at eb⟩)
      go_wp2_with fail
      go_round
      case rel => exact HR.out
      case measure => simp [intOf]; omega
  · have hj2 : j = L.length := by omega
    subst hj2
    go_wp2_with fail
    go_ret
    exact ⟨-1, rfl, .inl ⟨rfl, by have := HNT.out; rwa [List.take_length] at this⟩, rfl⟩

theorem flat_split {α : Type} (enc : α → List Value) (L : List α) (i : Nat) : L.flatMap enc = (L.take i).flatMap enc ++ (L.drop i).flatMap enc := by
  rw [← List.flatMap_append, List.take_append_drop]
theorem RS.take_cells {α : Type} {E : TypeId} {m : Nat} {enc : α → List Value} {w : World} {g cap n : Nat} {L : List α} (h : RS E m enc w (.slice (some ⟨g, 0, none⟩) n cap) L) (i : Nat) :
    ∀ j u, ((L.take i).flatMap enc)[j]? = some u → w.cell? ((⟨g, 0, none⟩ : Addr).add j) = some u := by
  intro j u hj
  refine h.cells (g := g) rfl j u ?_
  rw [flat_split enc L i, List.getElem?_append_left (List.getElem?_eq_some_iff.1 hj).1]
  exact hj
theorem RS.drop_cells {α : Type} {E : TypeId} {m : Nat} {enc : α → List Value} {w : World} {g cap n : Nat} {L : List α} (hk : ∀ x, (enc x).length = m) (h : RS E m enc w (.slice (some ⟨g, 0, none⟩) n cap) L) (i : Nat) (hi : i ≤ L.length) :
    ∀ j u, ((L.drop i).flatMap enc)[j]? = some u → w.cell? ((⟨g, i * m, none⟩ : Addr).add j) = some u := by
  intro j u hj
  have hl : ((L.take i).flatMap enc).length = i * m := by
    rw [flat_len enc m hk, List.length_take, Nat.min_eq_left hi]
  have := h.cells (g := g) rfl (i * m + j) u (by
    rw [flat_split enc L i, List.getElem?_append_right (by omega), hl, Nat.add_sub_cancel_left]
    exact hj)
  rw [Addr.add_lit] at this ⊢
  simpa using this
theorem rt_one (L : List Rt) : ∀ u ∈ L.flatMap Rt.enc, u.oneCell' = true := by
  intro u hu
  obtain ⟨t, _, ht⟩ := List.mem_flatMap.1 hu
  simp only [Rt.enc, List.mem_cons, List.not_mem_nil, or_false] at ht
  rcases ht with rfl | rfl <;> rfl

/-- What a call has done to the reference's wheel. -/
def RWDone (w : World) (rb n : Nat) (K : Int) (lv : Value) (A : List Rt → Prop) (e : Ending) (w' : World) : Prop :=
  (∃ v, e = .returned (.int .i64 v)) ∧ ∃ N lv' L', A L' ∧ RW w' rb n K N lv' L' ∧ Kept (fun k => k = rb ∨ lv.ownBlock = some k) w w' ∧ ∀ q, lv'.ownBlock = some q → lv.ownBlock = some q ∨ w.heap.size ≤ q

/-- Behind Cancel's two appends, and the store of the row. -/
theorem cancel_row {w w2 w3 : World} {rb n : Nat} {K N id : Int} {L : List Rt} {g cap j : Nat} (hjd : (L[j]?).map (·.1) = some id) (h : RW w rb n K N (.slice (some ⟨g, 0, none⟩) L.length cap) L) (hj : j < L.length) (k12 : Kept (fun _ => False) w w2) {v1 v2 : Value} (hw : ∀ q, v1.ownBlock = some q → (Value.slice none 0 0).ownBlock = some q ∨ w.heap.size ≤ q)
    {m : Nat} (hp : Pushed w2 90 2 v1 m ((L.take j).flatMap Rt.enc ++ (L.drop (j + 1)).flatMap Rt.enc) v2 w3) (hm : m = j + (L.length - (j + 1)) := by rfl) :
    w3.cell? ⟨rb, 1, none⟩ = some (.slice (some ⟨g, 0, none⟩) L.length cap) ∧ w3.frozen? ⟨rb, 1, none⟩ = false ∧ RWDone w rb n K (.slice (some ⟨g, 0, none⟩) L.length cap) (fun L' => ∀ t ∈ L', t.1 ≠ id) (.returned (.int .i64 0)) (w3.setCell ⟨rb, 1, none⟩ v2) := by
  have hrb : rb < w.heap.size := h.b.lt
  have new1 : ∀ q, v1.ownBlock = some q → w.heap.size ≤ q := fun q hq => by
    rcases hw q hq with e | e
    · simp [Value.ownBlock] at e
    · exact e
  have k13 : Kept (fun _ => False) w w3 := k12.trans' ((Kept.refl (fun q => v1.ownBlock = some q) _).grown hp.grown (fun k hk _ => hk)) (fun i hi e => by have := new1 i e; omega)
  have b3 := h.b.kept k13 (fun x => x)
  have hv2 : ∀ q, v2.ownBlock = some q → w.heap.size ≤ q := fun q hq => by
    rcases hp.where_ q hq with e | e
    · exact new1 q e
    · have := k12.size; omega
  have hlen : (L.take j ++ L.drop (j + 1)).length = m := by
    rw [List.length_append, List.length_take, List.length_drop, hm]; omega
  have r3 : RS 90 2 Rt.enc w3 v2 (L.take j ++ L.drop (j + 1)) := by
    unfold RS
    rw [hlen, List.flatMap_append]
    exact hp.own
  have hsub : (L.take j ++ L.drop (j + 1)).Sublist L := by
    conv => rhs; rw [← List.take_append_drop j L]
    exact List.Sublist.append (List.Sublist.refl _) (by rw [← List.drop_drop]; exact List.drop_sublist 1 _)
  have hnd' : ((L.take j ++ L.drop (j + 1)).map (·.1)).Nodup := h.nd.sublist (hsub.map (·.1))
  have hno : ∀ t ∈ L.take j ++ L.drop (j + 1), t.1 ≠ id := by
    have hnd := h.nd
    have e : L.map (·.1) = (L.take j).map (·.1) ++ id :: (L.drop (j + 1)).map (·.1) := by
      conv => lhs; rw [← List.take_append_drop j L]
      rw [List.map_append, List.drop_eq_getElem_cons hj, List.map_cons]
      rw [List.getElem?_eq_getElem hj, Option.map_some] at hjd
      injection hjd with hjd
      rw [hjd]
    rw [e, List.nodup_append] at hnd
    intro t ht e2
    have hin : id ∈ (L.take j).map (·.1) ∨ id ∈ (L.drop (j + 1)).map (·.1) := by
      rcases List.mem_append.1 ht with h1 | h1
      · exact .inl (List.mem_map.2 ⟨t, h1, e2⟩)
      · exact .inr (List.mem_map.2 ⟨t, h1, e2⟩)
    rcases hin with h1 | h1
    · exact hnd.2.2 id h1 id List.mem_cons_self rfl
    · exact (List.nodup_cons.1 hnd.2.1).1 h1
  have b4 : Blk (w3.setCell ⟨rb, 1, none⟩ v2) rb 88 #[.int .i64 N, v2] := Blk.set_ b3 1 v2
  refine ⟨(Blk.cell b3 1).trans rfl, Blk.frozen b3 1, ⟨0, rfl⟩, N, v2, _, hno, ⟨b4, r3.kept (F := fun q => q = rb) ((Kept.refl _ _).put _) (fun q hq e => by have := hv2 q hq; omega), h.n0, h.nK, h.n1, hnd', fun t ht => ?_⟩, (k13.mono (fun _ _ x => x.elim)).setCell (fun _ => .inl rfl) _, fun q hq => .inr (hv2 q hq)⟩
  rcases List.mem_append.1 ht with h1 | h1
  · exact h.i t (List.mem_of_mem_take h1)
  · exact h.i t (List.mem_of_mem_drop h1)

set_option maxHeartbeats 1000000 in
set_option maxRecDepth 20000 in
theorem ref_Cancel (h : RW w rb n K N lv L) (id : Int) : Calls Try.prog 42 #[.pointer (some ⟨rb, 0, none⟩), .int .i64 id] w (RWDone w rb n K lv (fun L' => ∀ t ∈ L', t.1 ≠ id)) := by
  obtain ⟨ao, cap, rfl, hao⟩ := h.r.form
  have c1 := h.c1
  have hl := h.len
  have hfind := ref_find h id
  have H := Lib.hid h
  have HAO := Lib.hid hao
  have HF := Lib.hid hfind
  clear h hao hfind
  go_enter Try.func42, Try.ntmps42
  go_wp2_with fail
  refine HF.out.mono ?_
  rintro e w' ⟨i, rfl, hi, rfl⟩
  rcases hi with ⟨rfl, hno⟩ | ⟨hi0, hi1, hi2⟩
  · have HNO := Lib.hid hno
    clear hno
    go_wp2_with fail
    go_ret
    exact ⟨⟨6, rfl⟩, N, _, L, HNO.out, H.out, Kept.refl _ _, fun q hq => .inl hq⟩
  · obtain ⟨j, rfl⟩ : ∃ j : Nat, i = j := ⟨i.toNat, by omega⟩
    obtain ⟨g, rfl⟩ := HAO.out (by omega)
    have hj : j < L.length := by omega
    have hcap : L.length ≤ cap := by
      rcases H.out.r.2 with ⟨e, _⟩ | ⟨g', cap', cur, e, _, _, h3, _⟩
      · cases e
      · simp only [Value.slice.injEq] at e; omega
    rw [Int.toNat_natCast] at hi2
    have HI2 := Lib.hid hi2
    clear hi0 hi1 hi2
    obtain ⟨i0', hi, hz0', hz1, hz2⟩ := info_parts (P := Try.prog) (e := 90) (z := .agg #[.int .i64 0, .int .i64 0]) (size := 2) (bytes := 16) (by kernel_rfl)
    have tl : (L.take j).length = j := by rw [List.length_take]; omega
    have HTL := Lib.hid tl
    have N0 := Lib.hid (World.ownsRow_nil w 0 90 2)
    clear tl
    go_wp2_with (at_builtin; refine wpList_push _ rfl _ _ 86 rfl 90 i0' (.agg #[.int .i64 0, .int .i64 0]) 2 16 Try.underlying86 hi hz0' hz1 hz2 rfl (by decide) _ 0 [] rfl N0.out ⟨g, 0, none⟩ j cap ((L.take j).flatMap Rt.enc) rfl ?d1 ?d2 ?d3 ?d4 ?d5 ?d6)
    case d1 => rw [flat_len Rt.enc 2 Rt.enc_len, HTL.out]
    case d2 => exact RS.take_cells H.out.r j
    case d3 => exact rt_one _
    case d4 => unfold maxLen; omega
    case d5 => omega
    case d6 =>
      intro v1 w2 hp
      have k12 : Kept (fun _ => False) w w2 := (Kept.refl _ _).grown hp.grown (fun k hk _ => by simp [Value.ownBlock] at hk)
      have c2 : w2.cell? ⟨rb, 1, none⟩ = some (.slice (some ⟨g, 0, none⟩) L.length cap) := (Blk.cell (H.out.b.kept k12 (fun x => x)) 1).trans rfl
      have f2 : w2.frozen? ⟨rb, 1, none⟩ = false := Blk.frozen (H.out.b.kept k12 (fun x => x)) 1
      have r2 := H.out.r.kept k12 (fun _ _ x => x)
      have hp1 := hp.own
      try simp only [Nat.zero_add, List.nil_append] at hp1
      have HP1 := Lib.hid hp1
      have R2 := Lib.hid r2
      have HW := Lib.hid hp.where_
      have K12 := Lib.hid k12
      clear hp hp1 r2 k12 c1
      rcases Nat.lt_or_ge (j + 1) cap with hcc | hcc
      · go_wp2_with (at_builtin; refine wpList_push _ rfl _ _ 86 rfl 90 i0' (.agg #[.int .i64 0, .int .i64 0]) 2 16 Try.underlying86 hi hz0' hz1 hz2 rfl (by decide) _ j ((L.take j).flatMap Rt.enc) rfl HP1.out ⟨g, (j + 1) * 2, none⟩ (L.length - (j + 1)) (cap - (j + 1)) ((L.drop (j + 1)).flatMap Rt.enc) rfl ?d1 ?d2 ?d3 ?d4 ?d5 ?d6)
        case d1 => rw [flat_len Rt.enc 2 Rt.enc_len, List.length_drop]
        case d2 => exact RS.drop_cells Rt.enc_len R2.out (j + 1) hj
        case d3 => exact rt_one _
        case d4 => unfold maxLen; omega
        case d5 => omega
        case d6 =>
          intro v2 w3 hp2
          obtain ⟨ao2, n2, c2', rfl⟩ := hp2.slice
          obtain ⟨hc3, hf3, hfin⟩ := cancel_row HI2.out H.out hj K12.out HW.out hp2
          have HFIN := Lib.hid hfin
          clear hp2 hfin
          go_wp2_with fail
          go_ret
          exact HFIN.out
      · obtain rfl : cap = j + 1 := by omega
        go_wp2_with (at_builtin; refine wpList_push _ rfl _ _ 86 rfl 90 i0' (.agg #[.int .i64 0, .int .i64 0]) 2 16 Try.underlying86 hi hz0' hz1 hz2 rfl (by decide) _ j ((L.take j).flatMap Rt.enc) rfl HP1.out ⟨g, 0, none⟩ 0 0 ((L.drop (j + 1)).flatMap Rt.enc) rfl ?d1 ?d2 ?d3 ?d4 ?d5 ?d6)
        case d1 => rw [flat_len Rt.enc 2 Rt.enc_len, List.length_drop]; omega
        case d2 => 
          intro q u hq
          rw [List.drop_of_length_le (by omega)] at hq
          simp at hq
        case d3 => exact rt_one _
        case d4 => unfold maxLen; omega
        case d5 => omega
        case d6 =>
          intro v2 w3 hp2
          obtain ⟨ao2, n2, c2', rfl⟩ := hp2.slice
          obtain ⟨hc3, hf3, hfin⟩ := cancel_row HI2.out H.out hj K12.out HW.out hp2 (by omega)
          have HFIN := Lib.hid hfin
          clear hp2 hfin
          go_wp2_with fail
          go_ret
          exact HFIN.out
end
end Go.Proofs.Ytchgieogdinglaa
