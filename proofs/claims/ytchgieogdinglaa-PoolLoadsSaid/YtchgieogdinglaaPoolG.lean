/- pool.Backs. -/
import Derived.Test.YtchgieogdinglaaPoolF
set_option linter.unusedSimpArgs false
set_option linter.unusedVariables false
namespace Go.Proofs.Ytchgieogdinglaa
open Go.RowKit
open Ser

/-- What a choice sees of a backend: up, slots, load. -/
abbrev Bv := Bool × Int × Int
def Bv.enc (x : Bv) : List Value := [.bool x.1, .int .i64 x.2.1, .int .i64 x.2.2]
def BackOf (b : Bk) (x : Bv) : Prop := x.2.2 = b.load ∧ x.2.1 = (if b.st = 2 then max 0 (b.may - b.load) else 0) ∧ (x.1 = true → b.st = 2)
def BacksOf (bs : List Bk) (L : List Bv) : Prop := ∀ (k : Nat) (b : Bk) (x : Bv), bs[k]? = some b → L[k]? = some x → BackOf b x
theorem BacksOf.snoc {bs : List Bk} {L : List Bv} (h : BacksOf bs L) {b : Bk} {x : Bv} (hb : bs[L.length]? = some b) (hx : BackOf b x) : BacksOf bs (L ++ [x]) := by
  intro k b' x' h1 h2
  rcases Nat.lt_or_ge k L.length with hl | hl
  · rw [List.getElem?_append_left hl] at h2
    exact h k b' x' h1 h2
  · rw [List.getElem?_append_right hl] at h2
    have hk : k = L.length := by
      have := (List.getElem?_eq_some_iff.1 h2).1
      simp at this
      omega
    subst hk
    simp at h2
    subst h2
    rw [hb] at h1
    injection h1 with h1
    subst h1
    exact hx
def RB (w : World) (v : Value) (L : List Bv) : Prop := RS 37 3 Bv.enc w v L

section
variable {c : PC} {w : World} {bs : List Bk} {N : Int} {G : Nat → Prop}
def PBacks1 (w : World) (bs : List Bk) (lv i : Value) (wr : World) : Prop :=
  ∃ L : List Bv, L.length ≤ bs.length ∧ i = .int .i64 L.length ∧ BacksOf bs L ∧ RB wr lv L ∧ (∀ q, lv.ownBlock = some q → w.heap.size ≤ q) ∧ Kept (fun _ => False) w wr
def PBacked (w : World) (bs : List Bk) (e : Ending) (w' : World) : Prop :=
  ∃ v L, e = .returned v ∧ L.length = bs.length ∧ BacksOf bs L ∧ RB w' v L ∧ (∀ q, v.ownBlock = some q → w.heap.size ≤ q) ∧ Kept (fun _ => False) w w'

theorem PBacks1.next {wr V w6 : World} {L : List Bv} {k : Nat} {b : Bk} {x : Bv} {u3 v' : Value} (hb : bs[k]? = some b) (hkl : L.length = k) (hB : BacksOf bs L) (hfr : ∀ q, u3.ownBlock = some q → w.heap.size ≤ q) (hkk : Kept (fun _ => False) w wr) (kV : Kept (fun _ => False) wr V) (hlt : k < bs.length)
    {o : Obj} {n : Nat} {cs : List Value} (p : Pushed (V.alloc o) 37 3 u3 n cs v' w6) (hx : BackOf b x) (hn : n = L.length + 1 := by rfl) (hcs : cs = L.flatMap Bv.enc ++ x.enc := by rfl) : PBacks1 w bs v' (.int .i64 ((k : Int) + 1)) w6 := by
  subst hkl
  refine ⟨L ++ [x], by simp; omega, by simp, hB.snoc hb hx, RS.pushed p hn hcs, fun q hq => ?_, ?_⟩
  · rcases p.where_ q hq with h | h
    · exact hfr q h
    · have h1 := hkk.size
      have h2 := kV.size
      simp at h
      omega
  · have k56 : Kept (fun q => u3.ownBlock = some q) V w6 := ((Kept.refl _ _).alloc _).trans ((Kept.refl _ _).grown p.grown (fun k hk _ => hk))
    exact (hkk.trans kV).trans' k56 (fun q hq e => by have := hfr q e; omega)

set_option maxHeartbeats 1000000 in
set_option maxRecDepth 20000 in
theorem pool_Backs (I : PInv c w bs N G) (hN : N ≤ 576460752303423488) :
    Calls Try.prog 6 #[.pointer (some ⟨c.pb, 0, none⟩)] w (PBacked w bs) := by
  have p0 := I.p.c0
  have hn := I.n
  have HI := Lib.hid I
  have HT1 := Lib.hid (show PBacks1 w bs (.slice none 0 0) (.int .i64 0) w from ⟨[], Nat.zero_le _, rfl, fun k b x _ h => by simp at h, RS.nil _, by simp [Value.ownBlock], Kept.refl _ _⟩)
  clear I
  go_enter Try.func6, Try.ntmps6
  go_wp2_with (go_at_call 19; refine (pool_none HI.out.p).mono ?_; rintro e w' ⟨rfl, rfl⟩)
  go_loopw [3, 14] (PBacks1 w bs) (fun _ i _ => bs.length - (intOf i).toNat)
  case atStart => exact HT1.out
  obtain ⟨L, hk, rfl, hB, hR, hfr, hkk⟩ := hrel
  obtain ⟨k, hkl⟩ : ∃ k, L.length = k := ⟨_, rfl⟩
  rw [hkl] at hk ⊢
  have HKL := Lib.hid hkl
  clear hkl
  rcases Nat.lt_or_ge k bs.length with hlt | hge
  · obtain ⟨b, hb⟩ : ∃ b, bs[k]? = some b := ⟨_, List.getElem?_eq_getElem hlt⟩
    have I := HI.out.kept hkk (fun _ _ x => x) (Int.le_refl _)
    obtain ⟨c0, c1, c2, c3, c4⟩ := I.r.cells hb
    have hmem := List.mem_of_getElem? hb
    obtain ⟨st, rn, ho, hm, hst, hr0, hr1, hh0, hh1⟩ := I.h b hmem
    have hbo := I.b b hmem
    have hb0 := hbo.1
    have hb1 := hbo.2.1
    have hm0 := hbo.2.2.1
    have hm1 := hbo.2.2.2.1
    have HM := Lib.hid hm
    have HB := Lib.hid hb
    have HBO := Lib.hid hB
    have HR := Lib.hid hR
    have HFR := Lib.hid hfr
    have HKK := Lib.hid hkk
    have hfl := I.c0
    have HI1 := Lib.hid I
    clear I hmem hm hb hB hR hfr hkk hst hr0 hr1 hh0 hh1 hbo
    have hbr : ∀ q, wr.heap.size ≤ q → b.hb ≠ q := fun q hq e => by
      have := (HM.out : Blk _ _ _ _).lt
      omega
    have kA : Kept (fun _ => False) wr ((wr.alloc (.cells #[.pointer (some ⟨b.hb, 0, none⟩), .int .i64 b.st, .int .i64 b.load, .int .i64 b.may, .int .i64 b.wait] 53)).alloc (.cells #[.bool false, .int .i64 0, .int .i64 b.load] 37)) := ((Kept.refl _ _).alloc _).alloc _
    by_cases h2 : b.st = 2
    · have e2 : (b.st == 2) = true := by simpa using h2
      have H2 := Lib.hid h2
      clear h2
      have hup := health_Up b.hb c.fl c.rs c.hd st rn ho _ ((HM.out.kept kA (fun x => x)).drew) hfl
      have HUP := Lib.hid hup
      have b5 := ((Blk.new wr 53 #[.pointer (some ⟨b.hb, 0, none⟩), .int .i64 b.st, .int .i64 b.load, .int .i64 b.may, .int .i64 b.wait]).alloc (.cells #[.bool false, .int .i64 0, .int .i64 b.load] 37)).drew
      have hI0 : ((wr.alloc (.cells #[.pointer (some ⟨b.hb, 0, none⟩), .int .i64 b.st, .int .i64 b.load, .int .i64 b.may, .int .i64 b.wait] 53)).alloc (.cells #[.bool false, .int .i64 0, .int .i64 b.load] 37)).drew.cell? ⟨wr.heap.size, 0, none⟩ = some (.pointer (some ⟨b.hb, 0, none⟩)) := (Blk.cell b5 0).trans rfl
      have hI1 : ((wr.alloc (.cells #[.pointer (some ⟨b.hb, 0, none⟩), .int .i64 b.st, .int .i64 b.load, .int .i64 b.may, .int .i64 b.wait] 53)).alloc (.cells #[.bool false, .int .i64 0, .int .i64 b.load] 37)).drew.cell? ⟨wr.heap.size, 2, none⟩ = some (.int .i64 b.load) := (Blk.cell b5 2).trans rfl
      have hI2 : ((wr.alloc (.cells #[.pointer (some ⟨b.hb, 0, none⟩), .int .i64 b.st, .int .i64 b.load, .int .i64 b.may, .int .i64 b.wait] 53)).alloc (.cells #[.bool false, .int .i64 0, .int .i64 b.load] 37)).drew.cell? ⟨wr.heap.size, 3, none⟩ = some (.int .i64 b.may) := (Blk.cell b5 3).trans rfl
      have HI0 := Lib.hid (And.intro hI0 (And.intro hI1 hI2))
      have B5 := Lib.hid b5
      clear hup b5 hI0 hI1 hI2
      go_wp2_with fail
      refine wp_region_serI (fun W => W.cell? ⟨wr.heap.size, 0, none⟩ = some (.pointer (some ⟨b.hb, 0, none⟩)) ∧ W.cell? ⟨wr.heap.size, 2, none⟩ = some (.int .i64 b.load) ∧ W.cell? ⟨wr.heap.size, 3, none⟩ = some (.int .i64 b.may)) [0,0,3,0,0,0,0,0,0,0,3,0,3] [0,1,2,3,4,5,6,7,8,9,10,11,12] (by kernel_rfl) (by kernel_rfl) HI0.out ?_
      have hI := HI0.out
      repeat (first | (refine wpSer_skip rfl rfl ?_) | (refine wpSer_calmE rfl rfl rfl rfl rfl rfl (by first | exact trivial | assumption) ?_; apply Exists.intro; refine ⟨?_, ?_⟩; focus (intro _ _ _ hK; go_step; first | exact hK | (rw [if_pos (by omega)]; go_step; exact hK) | (rw [if_neg (by omega)]; go_step; exact hK))))
      refine wpSer_opI rfl rfl rfl ?_
      intro _ hK
      go_step
      refine HUP.out.mono ?_
      rintro e w' ⟨rfl, rfl⟩
      refine hK _ _ HI0.out ?_
      clear hK
      repeat (first | (refine wpSer_skip rfl rfl ?_) | (refine wpSer_calmE rfl rfl rfl rfl rfl rfl (by first | exact trivial | assumption) ?_; apply Exists.intro; refine ⟨?_, ?_⟩; focus (intro _ _ _ hK; go_step; first | exact hK | (rw [if_pos (by omega)]; go_step; exact hK) | (rw [if_neg (by omega)]; go_step; exact hK))))
      (refine wpSer_opI rfl rfl rfl ?_; intro _ hK; go_step; (try first | (rw [if_pos (by omega)]; go_step) | (rw [if_neg (by omega)]; go_step)); refine (fun (h : _ ∧ _) => hK _ _ h.1 h.2) (inv_then ?_ (fun _ => ?_)); all_goals clear hK)
      · refine ⟨?_, ?_, ?_⟩ <;> simp [go_sem]
      repeat (first | (refine wpSer_skip rfl rfl ?_) | (refine wpSer_calmE rfl rfl rfl rfl rfl rfl (by first | exact trivial | assumption) ?_; apply Exists.intro; refine ⟨?_, ?_⟩; focus (intro _ _ _ hK; go_step; first | exact hK | (rw [if_pos (by omega)]; go_step; exact hK) | (rw [if_neg (by omega)]; go_step; exact hK))))
      (refine wpSer_opI rfl rfl rfl ?_; intro _ hK; go_step; (try first | (rw [if_pos (by omega)]; go_step) | (rw [if_neg (by omega)]; go_step)); refine (fun (h : _ ∧ _) => hK _ _ h.1 h.2) (inv_then ?_ (fun _ => ?_)); all_goals clear hK)
      · refine ⟨?_, ?_, ?_⟩ <;> simp [go_sem]
      (refine wpSer_nil ?_)
      have kV : Kept (fun _ => False) wr (((wr.alloc (.cells #[.pointer (some ⟨b.hb, 0, none⟩), .int .i64 b.st, .int .i64 b.load, .int .i64 b.may, .int .i64 b.wait] 53)).alloc (.cells #[.bool (st == 0), .int .i64 (max 0 (b.may - b.load)), .int .i64 b.load] 37)).drew) := (((Kept.refl _ _).alloc _).alloc _).drew
      have bV : Blk (((wr.alloc (.cells #[.pointer (some ⟨b.hb, 0, none⟩), .int .i64 b.st, .int .i64 b.load, .int .i64 b.may, .int .i64 b.wait] 53)).alloc (.cells #[.bool (st == 0), .int .i64 (max 0 (b.may - b.load)), .int .i64 b.load] 37)).drew) (wr.heap.size + 1) 37 #[.bool (st == 0), .int .i64 (max 0 (b.may - b.load)), .int .i64 b.load] := (Blk.new' _ _ _ (by simp)).drew
      generalize ((wr.alloc (.cells #[.pointer (some ⟨b.hb, 0, none⟩), .int .i64 b.st, .int .i64 b.load, .int .i64 b.may, .int .i64 b.wait] 53)).alloc (.cells #[.bool (st == 0), .int .i64 (max 0 (b.may - b.load)), .int .i64 b.load] 37)).drew = V at kV bV ⊢
      have x0 : V.cell? ⟨wr.heap.size + 1, 0, none⟩ = some (.bool (st == 0)) := (Blk.cell bV 0).trans rfl
      have x1 : V.cell? ⟨wr.heap.size + 1, 1, none⟩ = some (.int .i64 (max 0 (b.may - b.load))) := (Blk.cell bV 1).trans rfl
      have x2 : V.cell? ⟨wr.heap.size + 1, 2, none⟩ = some (.int .i64 b.load) := (Blk.cell bV 2).trans rfl
      have hR5 : RB (V.alloc (.cells #[.bool (st == 0), .int .i64 (max 0 (b.may - b.load)), .int .i64 b.load] 37)) u3 L := RS.kept (F := fun _ => False) HR.out (kV.alloc _) (fun _ _ x => x)
      have HR5 := Lib.hid hR5
      have hll : L.length ≤ 1000 := by rw [HKL.out]; omega
      have KV := Lib.hid kV
      clear hR5 bV kV kA
      obtain ⟨i0', hi, hz0', hz1, hz2⟩ := info_parts (P := Try.prog) (e := 37) (z := .agg #[.bool false, .int .i64 0, .int .i64 0]) (size := 3) (bytes := 24) (by kernel_rfl)
      go_wp2_with (at_builtin; refine wpList_push _ rfl _ _ 34 rfl 37 i0' (.agg #[.bool false, .int .i64 0, .int .i64 0]) 3 24 Try.underlying34 hi hz0' hz1 hz2 rfl (by decide) _ L.length (L.flatMap Bv.enc) rfl HR5.out ⟨V.heap.size, 0, none⟩ 1 1 [.bool (st == 0), .int .i64 (max 0 (b.may - b.load)), .int .i64 b.load] rfl rfl ?c1 ?c2 ?c3 ?c4 ?c5)
      case c1 => exact cells_new V _ [.bool (st == 0), .int .i64 (max 0 (b.may - b.load)), .int .i64 b.load]
      case c2 =>
        intro u hu
        simp only [List.mem_cons, List.not_mem_nil, or_false] at hu
        rcases hu with rfl | rfl | rfl <;> rfl
      case c3 => unfold maxLen; omega
      case c4 => omega
      case c5 =>
        intro v' w6 hp
        have rel := PBacks1.next (x := (st == 0, max 0 (b.may - b.load), b.load)) HB.out HKL.out HBO.out HFR.out HKK.out KV.out hlt hp ⟨rfl, by rw [if_pos H2.out], fun _ => H2.out⟩
        have HREL := Lib.hid rel
        clear hp rel
        go_wp2_with fail
        go_roundw
        case rel => exact HREL.out
        case measure => simp [intOf]; omega
    · have e2 : (b.st == 2) = false := by simpa using h2
      have H2 := Lib.hid h2
      clear h2
      go_upto_region 10 with (fail)
      have kV : Kept (fun _ => False) wr ((wr.alloc (.cells #[.pointer (some ⟨b.hb, 0, none⟩), .int .i64 b.st, .int .i64 b.load, .int .i64 b.may, .int .i64 b.wait] 53)).alloc (.cells #[.bool false, .int .i64 0, .int .i64 b.load] 37)) := ((Kept.refl _ _).alloc _).alloc _
      have bV : Blk ((wr.alloc (.cells #[.pointer (some ⟨b.hb, 0, none⟩), .int .i64 b.st, .int .i64 b.load, .int .i64 b.may, .int .i64 b.wait] 53)).alloc (.cells #[.bool false, .int .i64 0, .int .i64 b.load] 37)) (wr.heap.size + 1) 37 #[.bool false, .int .i64 0, .int .i64 b.load] := Blk.new' _ _ _ (by simp)
      generalize (wr.alloc (.cells #[.pointer (some ⟨b.hb, 0, none⟩), .int .i64 b.st, .int .i64 b.load, .int .i64 b.may, .int .i64 b.wait] 53)).alloc (.cells #[.bool false, .int .i64 0, .int .i64 b.load] 37) = V at kV bV ⊢
      have x0 : V.cell? ⟨wr.heap.size + 1, 0, none⟩ = some (.bool false) := (Blk.cell bV 0).trans rfl
      have x1 : V.cell? ⟨wr.heap.size + 1, 1, none⟩ = some (.int .i64 0) := (Blk.cell bV 1).trans rfl
      have x2 : V.cell? ⟨wr.heap.size + 1, 2, none⟩ = some (.int .i64 b.load) := (Blk.cell bV 2).trans rfl
      have hR5 : RB (V.alloc (.cells #[.bool false, .int .i64 0, .int .i64 b.load] 37)) u3 L := RS.kept (F := fun _ => False) HR.out (kV.alloc _) (fun _ _ x => x)
      have HR5 := Lib.hid hR5
      have hll : L.length ≤ 1000 := by rw [HKL.out]; omega
      have KV := Lib.hid kV
      clear hR5 bV kV kA
      obtain ⟨i0', hi, hz0', hz1, hz2⟩ := info_parts (P := Try.prog) (e := 37) (z := .agg #[.bool false, .int .i64 0, .int .i64 0]) (size := 3) (bytes := 24) (by kernel_rfl)
      go_wp2_with (at_builtin; refine wpList_push _ rfl _ _ 34 rfl 37 i0' (.agg #[.bool false, .int .i64 0, .int .i64 0]) 3 24 Try.underlying34 hi hz0' hz1 hz2 rfl (by decide) _ L.length (L.flatMap Bv.enc) rfl HR5.out ⟨V.heap.size, 0, none⟩ 1 1 [.bool false, .int .i64 0, .int .i64 b.load] rfl rfl ?c1 ?c2 ?c3 ?c4 ?c5)
      case c1 => exact cells_new V _ [.bool false, .int .i64 0, .int .i64 b.load]
      case c2 =>
        intro u hu
        simp only [List.mem_cons, List.not_mem_nil, or_false] at hu
        rcases hu with rfl | rfl | rfl <;> rfl
      case c3 => unfold maxLen; omega
      case c4 => omega
      case c5 =>
        intro v' w6 hp
        have rel := PBacks1.next (x := (false, 0, b.load)) HB.out HKL.out HBO.out HFR.out HKK.out KV.out hlt hp ⟨rfl, by rw [if_neg H2.out], fun h => by simp at h⟩
        have HREL := Lib.hid rel
        clear hp rel
        go_wp2_with fail
        go_roundw
        case rel => exact HREL.out
        case measure => simp [intOf]; omega
  · have hk2 : k = bs.length := by omega
    subst hk2
    have HT : PBacked w bs (.returned u3) wr := ⟨u3, L, rfl, HKL.out, hB, hR, hfr, hkk⟩
    have HTT := Lib.hid HT
    clear HT hB hR hfr hkk
    go_wp2_with fail
    go_ret
    exact HTT.out
end
end Go.Proofs.Ytchgieogdinglaa
