/- The reference's wheel: Tick, New. -/
import Derived.Test.YtchgieogdinglaaRefC
set_option linter.unusedSimpArgs false
set_option linter.unusedVariables false
namespace Go.Proofs.Ytchgieogdinglaa
open Go.RowKit
open Ser

theorem own_ne {w : World} {E E' : TypeId} {m m' n n' : Nat} {v v' : Value} {xs xs' : List Value} (h : w.ownsRow 0 E m v n xs) (h' : w.ownsRow 0 E' m' v' n' xs') (ht : E ≠ E') (q : Nat) (hq : v.ownBlock = some q) : v'.ownBlock ≠ some q := by
  rcases h.2 with ⟨rfl, _⟩ | ⟨g, cap, cur, rfl, _, hg, _⟩
  · simp [Value.ownBlock] at hq
  rcases h'.2 with ⟨rfl, _⟩ | ⟨g', cap', cur', rfl, _, hg', _⟩
  · simp [Value.ownBlock]
  intro e
  simp [Value.ownBlock] at hq e
  subst hq
  subst e
  exact Blk.ne_ (t := E) hg hg' ht rfl

section
variable {w w1 : World} {rb n : Nat} {K N : Int} {lv : Value} {L : List Rt}
def RTick (w1 : World) (n : Nat) (L : List Rt) (dv rv i : Value) (wr : World) : Prop :=
  ∃ (k : Nat) (D : List Int) (R : List Rt), k ≤ L.length ∧ i = .int .i64 k ∧ Kept (fun _ => False) w1 wr ∧ RI 3 wr dv D ∧ RS 90 2 Rt.enc wr rv R ∧ D.length ≤ k ∧ R.Sublist (L.take k) ∧ (∀ x ∈ D, 0 ≤ x ∧ x < n) ∧ (∀ t ∈ R, 0 ≤ t.1 ∧ t.1 < n) ∧
    (∀ q, dv.ownBlock = some q → w1.heap.size ≤ q) ∧ (∀ q, rv.ownBlock = some q → w1.heap.size ≤ q)
def RTicked (w : World) (rb n : Nat) (K : Int) (e : Ending) (w' : World) : Prop :=
  ∃ (v : Value) (D : List Int) (N : Int) (lv : Value) (L : List Rt), e = .returned v ∧ RI 3 w' v D ∧ D.length ≤ 1000 ∧ (∀ x ∈ D, 0 ≤ x ∧ x < n) ∧ (∀ q, v.ownBlock = some q → w.heap.size ≤ q) ∧ RW w' rb n (K + 1) N lv L ∧ Kept (fun k => k = rb) w w' ∧ ∀ q, lv.ownBlock = some q → w.heap.size ≤ q

theorem RTick.due {wr wx w6 : World} {k : Nat} {D : List Int} {R : List Rt} {dv rv v' : Value} {x : Int} (hk : k < L.length) (hkk : Kept (fun _ => False) w1 wr) (hD : RI 3 wr dv D) (hR : RS 90 2 Rt.enc wr rv R) (lD : D.length ≤ k) (lR : R.Sublist (L.take k))
    (iD : ∀ x ∈ D, 0 ≤ x ∧ x < n) (iR : ∀ t ∈ R, 0 ≤ t.1 ∧ t.1 < n) (fD : ∀ q, dv.ownBlock = some q → w1.heap.size ≤ q) (fR : ∀ q, rv.ownBlock = some q → w1.heap.size ≤ q) (kx : Kept (fun _ => False) wr wx) (hx : 0 ≤ x ∧ x < n)
    {m : Nat} {cs : List Value} (p : Pushed wx 3 1 dv m cs v' w6) (hm : m = D.length + 1) (hcs : cs = D.map (Value.int .i64) ++ [.int .i64 x]) : RTick w1 n L v' rv (.int .i64 ((k : Int) + 1)) w6 := by
  have k6 : Kept (fun q => dv.ownBlock = some q) wr w6 := (kx.mono (fun _ _ x => x.elim)).trans ((Kept.refl _ _).grown p.grown (fun k hk _ => hk))
  refine ⟨k + 1, D ++ [x], R, hk, by simp, hkk.trans' k6 (fun q hq e => by have := fD q e; omega), ?_, hR.kept k6 (fun q hq e => own_ne hD hR (by decide) q e hq), by simp; omega, lR.trans (by rw [List.take_succ_eq_append_getElem hk]; exact List.sublist_append_left _ _), fun y hy => ?_, iR, fun q hq => ?_, fR⟩
  · unfold RI
    rw [List.length_append, List.map_append]
    have := p.own
    subst hm hcs
    exact this
  · rcases List.mem_append.1 hy with h | h
    · exact iD y h
    · simp only [List.mem_singleton] at h; subst h; exact hx
  · rcases p.where_ q hq with h | h
    · exact fD q h
    · have := hkk.size; have := kx.size; omega
theorem RTick.rest {wr wx w6 : World} {k : Nat} {D : List Int} {R : List Rt} {dv rv v' : Value} {x : Rt} (hk : k < L.length) (hkk : Kept (fun _ => False) w1 wr) (hD : RI 3 wr dv D) (hR : RS 90 2 Rt.enc wr rv R) (lD : D.length ≤ k) (lR : R.Sublist (L.take k))
    (iD : ∀ x ∈ D, 0 ≤ x ∧ x < n) (iR : ∀ t ∈ R, 0 ≤ t.1 ∧ t.1 < n) (fD : ∀ q, dv.ownBlock = some q → w1.heap.size ≤ q) (fR : ∀ q, rv.ownBlock = some q → w1.heap.size ≤ q) (kx : Kept (fun _ => False) wr wx) (hx : 0 ≤ x.1 ∧ x.1 < n) (hxk : L[k] = x)
    {m : Nat} {cs : List Value} (p : Pushed wx 90 2 rv m cs v' w6) (hm : m = R.length + 1) (hcs : cs = R.flatMap Rt.enc ++ x.enc) : RTick w1 n L dv v' (.int .i64 ((k : Int) + 1)) w6 := by
  have k6 : Kept (fun q => rv.ownBlock = some q) wr w6 := (kx.mono (fun _ _ x => x.elim)).trans ((Kept.refl _ _).grown p.grown (fun k hk _ => hk))
  refine ⟨k + 1, D, R ++ [x], hk, by simp, hkk.trans' k6 (fun q hq e => by have := fR q e; omega), hD.kept k6 (fun q hq e => own_ne hR hD (by decide) q e hq), RS.pushed p hm hcs, by omega, by rw [List.take_succ_eq_append_getElem hk, hxk]; exact List.Sublist.append lR (List.Sublist.refl _), iD, fun y hy => ?_, fD, fun q hq => ?_⟩
  · rcases List.mem_append.1 hy with h | h
    · exact iR y h
    · simp only [List.mem_singleton] at h; subst h; exact hx
  · rcases p.where_ q hq with h | h
    · exact fR q h
    · have := hkk.size; have := kx.size; omega

set_option maxHeartbeats 1000000 in
set_option maxRecDepth 20000 in
theorem ref_Tick (h : RW w rb n K N lv L) (hK : K ≤ 576460752303423488) : Calls Try.prog 47 #[.pointer (some ⟨rb, 0, none⟩)] w (RTicked w rb n K) := by
  obtain ⟨ao, cap, rfl, hao⟩ := h.r.form
  have c0 := h.c0
  have f0 := Blk.frozen h.b 0
  have n0 := h.n0
  have nK := h.nK
  have lK := h.len
  have b1 : Blk (w.setCell ⟨rb, 0, none⟩ (.int .i64 (N + 1))) rb 88 #[.int .i64 (N + 1), .slice ao L.length cap] := Blk.set_ h.b 0 _
  have k1 : Kept (fun k => k = rb) w (w.setCell ⟨rb, 0, none⟩ (.int .i64 (N + 1))) := (Kept.refl _ _).put _
  have r1 := h.r.kept k1 (fun q hq e => h.ne (by rw [hq, e]))
  have hrb : rb < w.heap.size := h.b.lt
  generalize hw1 : w.setCell ⟨rb, 0, none⟩ (.int .i64 (N + 1)) = w1 at b1 k1 r1
  have T0 := Lib.hid (show RTick w1 n L (.slice none 0 0) (.slice none 0 0) (.int .i64 0) w1 from ⟨0, [], [], Nat.zero_le _, rfl, Kept.refl _ _, RI.nil _, RS.nil _, Nat.le_refl _, by simp, by simp, by simp, by simp [Value.ownBlock], by simp [Value.ownBlock]⟩)
  have H := Lib.hid h
  have HAO := Lib.hid hao
  have B1 := Lib.hid b1
  have K1 := Lib.hid k1
  have R1 := Lib.hid r1
  clear h hao b1 k1 r1
  go_enter Try.func47, Try.ntmps47
  go_wp2_with fail
  clear c0 f0
  go_loopw [3, 4, 5] (RTick w1 n L) (fun _ _ i _ => L.length - (intOf i).toNat)
  case atStart => exact T0.out
  obtain ⟨k, D, R, hk, rfl, hkk, hD, hR, lD, lR, iD, iR, fD, fR⟩ := hrel
  have hb := B1.out.kept hkk (fun x => x)
  have d0 : wr.cell? ⟨rb, 0, none⟩ = some (.int .i64 (N + 1)) := (Blk.cell hb 0).trans rfl
  have d1 : wr.cell? ⟨rb, 1, none⟩ = some (.slice ao L.length cap) := (Blk.cell hb 1).trans rfl
  have hrr := R1.out.kept hkk (fun _ _ x => x)
  rcases Nat.lt_or_ge k L.length with hlt | hge
  · obtain ⟨g, rfl⟩ := HAO.out (by omega)
    have e0 := RS.cell Rt.enc_len hrr k 0 hlt (by omega) (.int .i64 L[k].1) rfl
    have e1 := RS.cell Rt.enc_len hrr k 1 hlt (by omega) (.int .i64 L[k].2) rfl
    rw [Nat.add_zero] at e0
    have hx := H.out.i L[k] (List.getElem_mem _)
    obtain ⟨x, hxx⟩ : ∃ x, L[k].1 = x := ⟨_, rfl⟩
    obtain ⟨y, hyy⟩ : ∃ x, L[k].2 = x := ⟨_, rfl⟩
    rw [hxx] at e0 hx
    rw [hyy] at e1
    have HXY := Lib.hid (show L[k] = (x, y) from by rw [← hxx, ← hyy])
    clear hxx hyy
    have HKK := Lib.hid hkk
    have hRl : R.length ≤ k := by have := lR.length_le; rw [List.length_take] at this; omega
    have HD := Lib.hid hD
    have LR := Lib.hid lR
    have HR := Lib.hid hR
    have ID := Lib.hid iD
    have IR := Lib.hid iR
    have FD := Lib.hid fD
    have FR := Lib.hid fR
    have hrbr : rb < wr.heap.size := hb.lt
    clear hkk hD hR lR iD iR fD fR hb hrr hw1
    by_cases hy : y = N + 1
    · have eb : (y == N + 1) = true := by simpa using hy
      clear hy
      go_wp2_with fail
      go_quiet (fail)
      have kx : Kept (fun _ => False) wr ((wr.drewN nq).alloc (.cells #[.int .i64 x] 3)) := ((Kept.refl _ _).drewN _).alloc _
      have hD6 := HD.out.kept kx (fun _ _ x => x)
      have HD6 := Lib.hid hD6
      clear hD6
      obtain ⟨i0', hi, hz0', hz1, hz2⟩ := info_parts (P := Try.prog) (e := 3) (z := .int .i64 0) (size := 1) (bytes := 8) (by kernel_rfl)
      go_wp2_with (at_builtin; refine wpList_push _ rfl _ _ 71 rfl 3 i0' (.int .i64 0) 1 8 Try.underlying71 hi hz0' hz1 hz2 rfl (by decide) _ D.length (D.map (Value.int .i64)) rfl HD6.out ⟨wr.heap.size, 0, none⟩ 1 1 [.int .i64 x] rfl rfl ?c1 ?c2 ?c3 ?c4 ?c5)
      case c1 => exact cells_new (wr.drewN nq) _ [.int .i64 x]
      case c2 => exact ints_one [x]
      case c3 => unfold maxLen; omega
      case c4 => omega
      case c5 =>
        intro v' w6 hp
        have HREL := Lib.hid (RTick.due hlt HKK.out HD.out HR.out lD LR.out ID.out IR.out FD.out FR.out kx hx hp rfl rfl)
        clear hp
        go_wp2_with fail
        go_roundw
        case rel => exact HREL.out
        case measure => simp [intOf]; omega
    · have eb : (y == N + 1) = false := by simpa using hy
      clear hy
      go_wp2_with fail
      go_quiet (fail)
      have kx : Kept (fun _ => False) wr ((wr.drewN nq).alloc (.cells #[.int .i64 x, .int .i64 y] 90)) := ((Kept.refl _ _).drewN _).alloc _
      have hR6 := HR.out.kept kx (fun _ _ x => x)
      have HR6 := Lib.hid hR6
      clear hR6
      obtain ⟨i0', hi, hz0', hz1, hz2⟩ := info_parts (P := Try.prog) (e := 90) (z := .agg #[.int .i64 0, .int .i64 0]) (size := 2) (bytes := 16) (by kernel_rfl)
      go_wp2_with (at_builtin; refine wpList_push _ rfl _ _ 86 rfl 90 i0' (.agg #[.int .i64 0, .int .i64 0]) 2 16 Try.underlying86 hi hz0' hz1 hz2 rfl (by decide) _ R.length (R.flatMap Rt.enc) rfl HR6.out ⟨wr.heap.size, 0, none⟩ 1 1 [.int .i64 x, .int .i64 y] rfl rfl ?c1 ?c2 ?c3 ?c4 ?c5)
      case c1 => exact cells_new (wr.drewN nq) _ [.int .i64 x, .int .i64 y]
      case c2 => exact ints_one [x, y]
      case c3 => unfold maxLen; omega
      case c4 => omega
      case c5 =>
        intro v' w6 hp
        have HREL := Lib.hid (RTick.rest (x := (x, y)) hlt HKK.out HD.out HR.out lD LR.out ID.out IR.out FD.out FR.out kx hx HXY.out hp rfl rfl)
        clear hp
        go_wp2_with fail
        go_roundw
        case rel => exact HREL.out
        case measure => simp [intOf]; omega
  · have hj2 : k = L.length := by omega
    subst hj2
    obtain ⟨ao2, cap2, rfl, _⟩ := hR.form
    have f1 := Blk.frozen hb 1
    have hne : (Value.slice ao2 R.length cap2).ownBlock ≠ some rb := hR.ne_blk hb (by decide)
    have hne2 : u3.ownBlock ≠ some rb := hD.ne_blk hb (by decide)
    have HT := Lib.hid (show RTicked w rb n K (.returned u3) (wr.setCell ⟨rb, 1, none⟩ (.slice ao2 R.length cap2)) from by
      have kp : Kept (fun q => q = rb) wr (wr.setCell ⟨rb, 1, none⟩ (.slice ao2 R.length cap2)) := (Kept.refl _ _).put _
      have s1 := K1.out.size
      refine ⟨u3, D, N + 1, _, R, rfl, hD.kept kp (fun q hq e => hne2 (by rw [hq, e])), by omega, iD, fun q hq => by have := fD q hq; omega, ⟨Blk.set_ hb 1 _, hR.kept kp (fun q hq e => hne (by rw [hq, e])), by omega, by omega, H.out.n1, H.out.nd.sublist ((lR.trans (List.take_sublist _ _)).map (·.1)), iR⟩, (K1.out.trans (hkk.mono (fun _ _ x => x.elim))).trans kp, fun q hq => by have := fR q hq; omega⟩)
    clear hkk hD hR iD iR fD fR hb hrr hne hne2 hw1
    go_wp2_with fail
    go_ret
    exact HT.out
end
end Go.Proofs.Ytchgieogdinglaa
