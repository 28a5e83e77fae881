/- pool.Tick. -/
import Derived.Test.YtchgieogdinglaaPoolE
set_option linter.unusedSimpArgs false
set_option linter.unusedVariables false
namespace Go.Proofs.Ytchgieogdinglaa
open Go.RowKit
open Ser

/-- One number that is due: a backend that is down is dialled. -/
def tstep (p : List Bk × List Int) (x : Int) : List Bk × List Int := match p.1[x.toNat]? with
  | some b => if b.st = 0 then (p.1.set x.toNat { b with st := 1 }, p.2 ++ [x]) else p
  | none => p
def tfold (bs : List Bk) (l : List Int) : List Bk × List Int := l.foldl tstep (bs, [])
theorem tfold_take (bs : List Bk) (l : List Int) (k : Nat) (hk : k < l.length) : tfold bs (l.take (k + 1)) = tstep (tfold bs (l.take k)) (l.getD k 0) := by
  unfold tfold
  rw [List.take_succ_eq_append_getElem hk, List.foldl_append]
  simp [hk]
theorem tstep_len (p : List Bk × List Int) (x : Int) : (tstep p x).1.length = p.1.length := by
  unfold tstep
  split
  · split
    · simp
    · rfl
  · rfl
theorem tfold_len (bs : List Bk) (l : List Int) : (tfold bs l).1.length = bs.length := by
  unfold tfold
  suffices h : ∀ (l : List Int) (p : List Bk × List Int), (l.foldl tstep p).1.length = p.1.length from h l _
  intro l
  induction l with
  | nil => intro p; rfl
  | cons x l ih => intro p; rw [List.foldl_cons, ih, tstep_len]
theorem tfold_out (bs : List Bk) (l : List Int) : (tfold bs l).2.length ≤ l.length := by
  unfold tfold
  suffices h : ∀ (l : List Int) (p : List Bk × List Int), (l.foldl tstep p).2.length ≤ p.2.length + l.length by simpa using h l (bs, [])
  intro l
  induction l with
  | nil => intro p; simp
  | cons x l ih =>
    intro p
    rw [List.foldl_cons]
    have := ih (tstep p x)
    have h2 : (tstep p x).2.length ≤ p.2.length + 1 := by
      unfold tstep
      split
      · split
        · simp
        · omega
      · omega
    simp only [List.length_cons]
    omega

section
variable {c : PC} {w : World} {bs : List Bk} {N : Int} {G F : Nat → Prop} {mb : Nat} {now set : Int} {ts : List Tim} {sl : List (List Int)} {sv : List Value}
theorem PInv.wheeled1 {N' : Int} {w1 : World} (I : PInv c w bs N G) (hFG : ∀ k, F k → G k) (hFp : ¬ F c.pb) (hFl : ¬ F c.lb) (hFh : ∀ b ∈ bs, ¬ F b.hb) (g : Kept F w w1) (hw : PW w1 c.wb bs.length N' F mb now set ts sl sv) (hN : N ≤ N') : PInv c w1 bs N' G :=
  ⟨I.p.kept g hFp, I.r.kept g hFl, I.n, fun b hb => (I.b b hb).more hN, fun b hb => ((I.h b hb).more hN).kept g (hFh b hb),
    ⟨F, mb, now, set, ts, sl, sv, hw, hFG, hFp, hFl, hFh⟩, I.gp, I.gl, I.gh, fun k hk => Nat.lt_of_lt_of_le (I.lt k hk) g.size, I.c0, I.c1, I.c2, by have := I.n0; omega⟩

/-- The first loop of Tick: the health models. -/
def PTick1 (c : PC) (w : World) (bs : List Bk) (N : Int) (G F : Nat → Prop) (mb : Nat) (now set : Int) (ts : List Tim) (sl : List (List Int)) (sv : List Value) (i : Value) (wr : World) : Prop :=
  ∃ k : Nat, k ≤ bs.length ∧ i = .int .i64 k ∧ PInv c wr bs N G ∧ PW wr c.wb bs.length N F mb now set ts sl sv ∧ Kept G w wr
/-- The second. -/
def PTick2 (c : PC) (w w2 : World) (bs : List Bk) (N : Int) (G : Nat → Prop) (lv : Value) (l : List Int) (ov i : Value) (wr : World) : Prop :=
  ∃ k : Nat, k ≤ l.length ∧ i = .int .i64 k ∧ PInv c wr (tfold bs (l.take k)).1 (N + 1) G ∧ Kept G w wr ∧ RI 3 wr lv l ∧ RI 3 wr ov (tfold bs (l.take k)).2 ∧ (∀ q, ov.ownBlock = some q → w2.heap.size ≤ q) ∧ w2.heap.size ≤ wr.heap.size
def PTicked (c : PC) (w : World) (bs : List Bk) (N : Int) (G : Nat → Prop) (now : Int) (ts : List Tim) (e : Ending) (w' : World) : Prop :=
  ∃ (v : Value) (l : List Int), e = .returned v ∧ l.Nodup ∧ (∀ x, x ∈ l ↔ ∃ t ∈ ts, t.1 = x ∧ t.2.1 = now + 1) ∧ RI 3 w' v (tfold bs l).2 ∧ (∀ q, v.ownBlock = some q → w.heap.size ≤ q) ∧ l.length ≤ 1000 ∧ PInv c w' (tfold bs l).1 (N + 1) G ∧ Kept G w w'

set_option maxHeartbeats 1000000 in
set_option maxRecDepth 20000 in
theorem pool_Tick (I : PInv c w bs N G) (hN : N ≤ 576460752303423488) (hw : PW w c.wb bs.length N F mb now set ts sl sv) (hFG : ∀ k, F k → G k) (hFp : ¬ F c.pb) (hFl : ¬ F c.lb) (hFh : ∀ b ∈ bs, ¬ F b.hb) :
    Calls Try.prog 25 #[.pointer (some ⟨c.pb, 0, none⟩)] w (PTicked c w bs N G now ts) := by
  have p0 := I.p.c0
  have hn := I.n
  have HT1 := Lib.hid (show PTick1 c w bs N G F mb now set ts sl sv (.int .i64 0) w from ⟨0, Nat.zero_le _, rfl, I, hw, Kept.refl _ _⟩)
  have HI := Lib.hid I
  have HFG := Lib.hid hFG
  have HFp := Lib.hid hFp
  have HFl := Lib.hid hFl
  have HFh := Lib.hid hFh
  clear I hw hFG hFp hFl hFh
  go_enter Try.func25, Try.ntmps25
  go_wp2_with (go_at_call 19; refine (pool_none HI.out.p).mono ?_; rintro e w' ⟨rfl, rfl⟩)
  go_loopw [15] (PTick1 c w bs N G F mb now set ts sl sv) (fun i _ => bs.length - (intOf i).toNat)
  case atStart => exact HT1.out
  obtain ⟨k, hk, rfl, I, hw, hkk⟩ := hrel
  rcases Nat.lt_or_ge k bs.length with hlt | hge
  · obtain ⟨b, hb⟩ : ∃ b, bs[k]? = some b := ⟨_, List.getElem?_eq_getElem hlt⟩
    obtain ⟨c0, c1, c2, c3, c4⟩ := I.r.cells hb
    have hmem := List.mem_of_getElem? hb
    obtain ⟨st, rn, ho, hm, hst, hr0, hr1, hh0, hh1⟩ := I.h b hmem
    have k1 : Kept (fun _ => False) wr (wr.alloc (.cells #[.pointer (some ⟨b.hb, 0, none⟩), .int .i64 b.st, .int .i64 b.load, .int .i64 b.may, .int .i64 b.wait] 53)) := (Kept.refl _ _).alloc _
    have ht := health_Tick b.hb c.fl c.rs c.hd st rn ho _ (hm.kept k1 (fun x => x)) I.c0 hh0 hh1
    have HH := Lib.hid ht
    have I' := Lib.hid I
    have HW := Lib.hid hw
    have HKK := Lib.hid hkk
    have HM := Lib.hid hmem
    have HST := Lib.hid (show (st = 0 ∨ st = 1) ∧ 0 ≤ rn ∧ rn ≤ N ∧ 0 ≤ ho ∧ ho ≤ 1073741824 from ⟨hst, hr0, hr1, hh0, hh1⟩)
    clear I hw hkk hmem hst hr0 hr1 hh0 hh1 hm ht hb
    go_wp2_with fail
    refine HH.out.mono ?_
    rintro e w1 ⟨rfl, hm1, hk1⟩
    have rel : PTick1 c w bs N G F mb now set ts sl sv (.int .i64 ((k : Int) + 1)) w1 := by
      obtain ⟨hst, hr0, hr1, hh0, hh1⟩ := HST.out
      have hd := holdOf_range hh0
      have hF1 := HFh.out b HM.out
      exact ⟨k + 1, hlt, by simp, (I'.out.kept k1 (fun _ _ x => x) (Int.le_refl _)).healed HM.out rfl hk1 ⟨st, rn, _, hm1, hst, hr0, hr1, hd.1, by omega⟩ (Int.le_refl _),
        (HW.out.kept k1 (fun _ _ x => x) (Int.le_refl _)).kept hk1 (fun i hi e => hF1 (by rw [← e]; exact hi)) (Int.le_refl _), HKK.out.trans ((k1.mono (fun _ _ x => x.elim)).trans (hk1.mono (fun i _ e => by rw [e]; exact I'.out.gh b HM.out)))⟩
    have HR := Lib.hid rel
    clear rel hm1 hk1
    go_wp2_with fail
    go_roundw
    case rel => exact HR.out
    case measure => simp [intOf]; omega
  · obtain rfl : k = bs.length := by omega
    have p1 := I.p.c1
    have n1 := hw.nN
    have n2 := hw.sN
    have ht := wheel_Tick hw.at_ hw.ok (by omega) (by omega)
    have HH := Lib.hid ht
    have I' := Lib.hid I
    have HW := Lib.hid hw
    have HKK := Lib.hid hkk
    clear I hw hkk ht p0
    go_wp2_with fail
    refine HH.out.mono ?_
    rintro e w2 ⟨lv, l, sl2, sv2, rfl, hri, hfr, hnd, hmm, hwa, hwo, hwk⟩
    have hts : ∀ x ∈ l, 0 ≤ x ∧ x < bs.length := fun x hx => by
      obtain ⟨t, ht, rfl, _⟩ := (hmm x).1 hx
      have h1 := HW.out.ok.timer t ht
      have h2 := HW.out.few t ht
      omega
    have hll : l.length ≤ 1000 := Nat.le_trans (nodup_bound bs.length l hnd hts) hn
    have hi2 : PInv c w2 bs (N + 1) G := I'.out.wheeled1 HFG.out HFp.out HFl.out HFh.out hwk ⟨hwa, hwo, by omega, by omega, fun t ht => HW.out.few t ((mem_tdels l HW.out.ok.nodup).1 ht).1⟩ (by omega)
    have hk2 : Kept G w w2 := HKK.out.trans (hwk.mono (fun i _ h => HFG.out i h))
    obtain ⟨ao, cap, rfl, hao⟩ : ∃ ao cap, lv = .slice ao l.length cap ∧ (0 < l.length → ∃ g, ao = some ⟨g, 0, none⟩) := by
      rcases hri.form with ⟨e, e2⟩ | ⟨g, cap, cur, e, _⟩
      · rw [e2]; exact ⟨none, 0, e, fun h => by simp at h⟩
      · exact ⟨_, cap, e, fun _ => ⟨g, rfl⟩⟩
    have hlvG : ∀ q, (Value.slice ao l.length cap).ownBlock = some q → ¬ G q := fun q hq hG => by
      have h1 := hfr q hq
      have h2 := I'.out.lt q hG
      omega
    have hlv2 : ∀ q, (Value.slice ao l.length cap).ownBlock = some q → q < w2.heap.size := hri.lt
    have HT2 := Lib.hid (show PTick2 c w w2 bs N G (.slice ao l.length cap) l (.slice none 0 0) (.int .i64 0) w2 from
      ⟨0, Nat.zero_le _, rfl, hi2, hk2, hri, RI.nil _, by simp [Value.ownBlock], Nat.le_refl _⟩)
    have HND := Lib.hid hnd
    have HMM := Lib.hid hmm
    have HTS := Lib.hid hts
    have HAO := Lib.hid hao
    have HLG := Lib.hid hlvG
    have HL2 := Lib.hid hlv2
    have HK2 := Lib.hid hk2
    clear hri hfr hnd hmm hwa hwo hwk hts hi2 hk2 hao hlvG hlv2 p1
    go_wp2_with fail
    go_loopw [5, 29] (PTick2 c w w2 bs N G (.slice ao l.length cap) l) (fun _ i _ => l.length - (intOf i).toNat)
    case atStart => exact HT2.out
    obtain ⟨k, hk, rfl, I2, hk3, hri, hro, hof, hsz⟩ := hrel
    rcases Nat.lt_or_ge k l.length with hlt | hge
    · obtain ⟨g, rfl⟩ := HAO.out (by omega)
      have hcell := hri.cell rfl k hlt
      have hxm : l.getD k 0 ∈ l := by
        rw [List.getD_eq_getElem?_getD, List.getElem?_eq_getElem hlt]
        exact List.getElem_mem _
      have hx2 := HTS.out _ hxm
      obtain ⟨j, hj⟩ : ∃ j : Nat, l.getD k 0 = j := ⟨(l.getD k 0).toNat, by omega⟩
      rw [hj] at hcell hx2
      have hbl := tfold_len bs (l.take k)
      obtain ⟨b, hb⟩ : ∃ b, (tfold bs (l.take k)).1[j]? = some b := ⟨_, List.getElem?_eq_getElem (by rw [hbl]; omega)⟩
      have hstep : tfold bs (l.take (k + 1)) = tstep (tfold bs (l.take k)) (j : Int) := by rw [tfold_take _ _ _ hlt, hj]
      have hol := tfold_out bs (l.take k)
      rw [List.length_take] at hol
      generalize tfold bs (l.take k) = P at I2 hro hb hbl hstep hol
      obtain ⟨bk, ok⟩ := P
      simp only at I2 hro hb hbl hol
      unfold tstep at hstep
      simp only [Int.toNat_natCast, hb] at hstep
      obtain ⟨c0, c1, c2, c3, c4⟩ := I2.r.cells hb
      have p0' := I2.p.c0
      have f1 := I2.r.frozen (j * 5 + 1)
      have hj1 : j < bk.length := by omega
      have hj2 : (j : Int) < (bk.length : Nat) := by omega
      have hbo := I2.b b (List.mem_of_getElem? hb)
      have hlb : c.lb < wr.heap.size := I2.lt _ I2.gl
      have H2 := Lib.hid I2
      have HB := Lib.hid hb
      have HK3 := Lib.hid hk3
      have HRI := Lib.hid hri
      have HRO := Lib.hid hro
      have HOF := Lib.hid hof
      have HJ := Lib.hid hj
      have HBL := Lib.hid hbl
      have hbn : bk.length ≤ 1000 := by omega
      by_cases hs : b.st = 0
      · rw [if_pos hs] at hstep
        have hsb : (b.st == 0) = true := by simpa using hs
        have HSTEP := Lib.hid hstep
        have I3 : PInv c (wr.setCell ⟨c.lb, j * 5 + 1, none⟩ (.int .i64 1)) (bk.set j { b with st := 1 }) (N + 1) G := I2.put hb (I2.r.put1 hb 1) ((Kept.refl _ _).put _) (Int.le_refl _) ⟨hbo.1, hbo.2.1, hbo.2.2⟩ rfl
        have k3 : Kept (fun k => k = c.lb) wr (wr.setCell ⟨c.lb, j * 5 + 1, none⟩ (.int .i64 1)) := (Kept.refl _ _).put _
        have hlb2 : c.lb < w2.heap.size := Nat.lt_of_lt_of_le (HI.out.lt _ HI.out.gl) HK2.out.size
        have hro3 : RI 3 ((wr.setCell ⟨c.lb, j * 5 + 1, none⟩ (.int .i64 1)).alloc (.cells #[.int .i64 j] 3)) u5 ok := (hro.kept k3 (fun q hq e => by have := hof q hq; omega)).kept (F := fun _ => False) ((Kept.refl _ _).alloc _) (fun _ _ x => x)
        have H3 := Lib.hid I3
        have HRO3 := Lib.hid hro3
        clear I2 hb hk3 hri hro hof hj hbl hstep I3 hro3 hs hbo
        obtain ⟨i0', hi, hz0', hz1, hz2⟩ := info_parts (P := Try.prog) (e := 3) (z := .int .i64 0) (size := 1) (bytes := 8) (by kernel_rfl)
        go_wp2_with (at_builtin; refine wpList_push _ rfl _ _ 71 rfl 3 i0' (.int .i64 0) 1 8 Try.underlying71 hi hz0' hz1 hz2 rfl (by decide) _ ok.length (ok.map (Value.int .i64)) rfl HRO3.out ⟨wr.heap.size, 0, none⟩ 1 1 [.int .i64 j] rfl rfl ?c1 ?c2 ?c3 ?c4 ?c5)
        case c1 =>
          have e : (wr.setCell ⟨c.lb, j * 5 + 1, none⟩ (.int .i64 1)).heap.size = wr.heap.size := by simp [World.setCell]
          have := cells_new (wr.setCell ⟨c.lb, j * 5 + 1, none⟩ (.int .i64 1)) 3 [.int .i64 j]
          rw [e] at this
          exact this
        case c2 => exact ints_one [j]
        case c3 => unfold maxLen; omega
        case c4 => omega
        case c5 =>
          intro v' w6 hp
          have hgb : c.lb < w2.heap.size := hlb2
          have rel : PTick2 c w w2 bs N G (.slice (some ⟨g, 0, none⟩) l.length cap) l v' (.int .i64 ((k : Int) + 1)) w6 := by
            have k46 : Kept (fun q => u5.ownBlock = some q) (wr.setCell ⟨c.lb, j * 5 + 1, none⟩ (.int .i64 1)) w6 := ((Kept.refl _ _).alloc _).trans ((Kept.refl _ _).grown hp.grown (fun k hk _ => hk))
            have hou : ∀ q, u5.ownBlock = some q → ¬ G q := fun q hq hG => by
              have h1 := HOF.out q hq
              have h2 := HI.out.lt q hG
              have h3 := HK2.out.size
              omega
            have hne : ∀ q, (Value.slice (some ⟨g, 0, none⟩) l.length cap).ownBlock = some q → ¬ u5.ownBlock = some q := fun q hq e => by
              have h1 := HOF.out q e
              have h2 := HL2.out q hq
              omega
            refine ⟨k + 1, hlt, by simp, ?_, ?_, ?_, ?_, fun q hq => ?_, ?_⟩
            · rw [HSTEP.out]
              exact H3.out.kept k46 (fun q hq e => hou q e hq) (Int.le_refl _)
            · exact (HK3.out.trans (k3.mono (fun q _ e => by rw [e]; exact H2.out.gl))).trans' k46 (fun q hq e => by
                have h1 := HOF.out q e
                have h2 := HK2.out.size
                omega)
            · exact (HRI.out.kept k3 (fun q hq e => HLG.out q hq (by rw [e]; exact H2.out.gl))).kept k46 hne
            · rw [HSTEP.out]
              have := hp.own
              unfold RI
              rw [List.length_append, List.map_append]
              exact this
            · rcases hp.where_ q hq with h | h
              · exact HOF.out q h
              · simp [World.setCell] at h
                omega
            · have := k46.size
              simp [World.setCell] at this
              omega
          have HR := Lib.hid rel
          clear hp rel
          go_wp2_with fail
          go_roundw
          case rel => exact HR.out
          case measure => simp [intOf]; omega
      · rw [if_neg hs] at hstep
        have hsb : (b.st == 0) = false := by simpa using hs
        have rel : PTick2 c w w2 bs N G (.slice (some ⟨g, 0, none⟩) l.length cap) l u5 (.int .i64 ((k : Int) + 1)) wr := by
          refine ⟨k + 1, hlt, by simp, ?_, hk3, hri, ?_, hof, hsz⟩
          · rw [hstep]; exact I2
          · rw [hstep]; exact hro
        have HR := Lib.hid rel
        clear I2 hb hk3 hri hro hof hj hbl hstep hs hbo rel
        go_wp2_with fail
        go_roundw
        case rel => exact HR.out
        case measure => simp [intOf]; omega
    · obtain rfl : k = l.length := by omega
      rw [List.take_length] at I2 hro
      have HT : PTicked c w bs N G now ts (.returned u5) wr :=
        ⟨u5, l, rfl, HND.out, HMM.out, hro, fun q hq => Nat.le_trans HK2.out.size (hof q hq), hll, I2, hk3⟩
      have HTT := Lib.hid HT
      clear HT I2 hk3 hri hro hof hsz
      go_wp2_with fail
      go_ret
      exact HTT.out
end
end Go.Proofs.Ytchgieogdinglaa
