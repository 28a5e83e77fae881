/- pool.ticks, pool.New. -/
import Derived.Test.YtchgieogdinglaaPoolG
set_option linter.unusedSimpArgs false
set_option linter.unusedVariables false
namespace Go.Proofs.Ytchgieogdinglaa
open Go.RowKit
open Ser

set_option maxHeartbeats 400000 in
theorem pool_ticks (n : Int) (w : World) (h0 : 1 ≤ n) (h1 : n ≤ 1073741824) : Calls Try.prog 13 #[.int .i64 n] w fun e w' => e = .returned (.bool true) ∧ w = w' := by
  have e1 : decide (1 ≤ n) = true := by simpa using h0
  go_enter Try.func13, Try.ntmps13
  go_wp2
  go_ret
  refine ⟨?_, rfl⟩
  simp [h1]

/-- The timers of a pool of k backends that was just made. -/
def firstTims (k : Nat) : List Tim := (List.range k).map fun i => ((i : Nat), 1, (i : Nat))
theorem firstTims_succ (k : Nat) : firstTims (k + 1) = firstTims k ++ [(((k : Nat) : Int), (1 : Int), ((k : Nat) : Int))] := by simp [firstTims, List.range_succ]
theorem firstTims_none (k : Nat) : tlook (k : Nat) (firstTims k) = none := by
  rw [tlook_none]
  intro t ht
  obtain ⟨i, hi, rfl⟩ := List.mem_map.1 ht
  have := List.mem_range.1 hi
  simp only
  omega
theorem firstTims_lt (k : Nat) : ∀ t ∈ firstTims k, t.1 < k := by
  intro t ht
  obtain ⟨i, hi, rfl⟩ := List.mem_map.1 ht
  have := List.mem_range.1 hi
  simp only
  omega

/-- A pool that is being made: so many backends so far. -/
structure Making (w0 : World) (ab : Nat) (fl rs hd retry most : Int) (pb wb : Nat) (bs : List Bk) (lv : Value) (F : Nat → Prop) (mb : Nat) (sl : List (List Int)) (sv : List Value) (w : World) : Prop where
  a : Blk w ab 28 #[.int .i64 fl, .int .i64 rs, .int .i64 hd]
  p : Blk w pb 51 #[lv, .pointer (some ⟨wb, 0, none⟩), .int .i64 retry, .int .i64 most]
  r : RS 53 5 Bk.enc w lv bs
  b : ∀ b ∈ bs, b.st = 0 ∧ b.load = 0 ∧ b.may = 0 ∧ b.wait = retry ∧ HM w b.hb fl rs hd 0 0 0 ∧ w0.heap.size ≤ b.hb ∧ ¬ F b.hb
  wa : WheelAt w wb 0 bs.length (firstTims bs.length) sl F mb sv
  wo : WOk 0 bs.length (firstTims bs.length) sl
  f0 : ∀ k, F k → w0.heap.size ≤ k
  fp : ¬ F pb
  fl_ : ∀ k, lv.ownBlock = some k → ¬ F k
  fa : ¬ F ab
  p0 : w0.heap.size ≤ pb
  l0 : ∀ k, lv.ownBlock = some k → w0.heap.size ≤ k
  kept : Kept (fun _ => False) w0 w

/-- One backend more: its health model is made, it is pushed, its timer is set. -/
theorem Making.next {w0 w w1 w3 : World} {ab : Nat} {fl rs hd retry most : Int} {pb wb : Nat} {bs : List Bk} {lv : Value} {F : Nat → Prop} {mb : Nat} {sl : List (List Int)} {sv : List Value} (M : Making w0 ab fl rs hd retry most pb wb bs lv F mb sl sv w)
    {hb : Nat} (k1 : Kept (fun _ => False) w w1) (hm : HM w1 hb fl rs hd 0 0 0) (h0 : w.heap.size ≤ hb) {o : Obj} {n : Nat} {cs : List Value} {v' : Value} (p : Pushed (w1.alloc o) 53 5 lv n cs v' w3) (hn : n = bs.length + 1) (hcs : cs = bs.flatMap Bk.enc ++ (Bk.mk hb 0 0 0 retry).enc) :
    WheelAt (w3.setCell ⟨pb, 0, none⟩ v') wb 0 bs.length (firstTims bs.length) sl F mb sv ∧ (w3.setCell ⟨pb, 0, none⟩ v').cell? ⟨pb, 1, none⟩ = some (.pointer (some ⟨wb, 0, none⟩)) ∧ w3.frozen? ⟨pb, 0, none⟩ = false ∧ w3.cell? ⟨pb, 0, none⟩ = some lv ∧
    ∀ w5 F' sv' sl', WheelAt w5 wb 0 (bs.length + 1 : Int) (tdel (bs.length : Nat) (firstTims bs.length) ++ [(((bs.length : Nat) : Int), (0 : Int) + 1, ((bs.length : Nat) : Int))]) sl' F' mb sv' → WOk 0 (bs.length + 1 : Int) (tdel (bs.length : Nat) (firstTims bs.length) ++ [(((bs.length : Nat) : Int), (0 : Int) + 1, ((bs.length : Nat) : Int))]) sl' →
      Grew F (w3.setCell ⟨pb, 0, none⟩ v') F' w5 → Making w0 ab fl rs hd retry most pb wb (bs ++ [⟨hb, 0, 0, 0, retry⟩]) v' F' mb sl' sv' w5 := by
  have hlp : lv.ownBlock ≠ some pb := M.r.ne_blk M.p (by decide)
  have hla : lv.ownBlock ≠ some ab := M.r.ne_blk M.a (by decide)
  have hpa : pb ≠ ab := Blk.ne_ M.p M.a (by decide)
  have k2 : Kept (fun _ => False) w (w1.alloc o) := k1.alloc _
  have k3 : Kept (fun q => lv.ownBlock = some q) w w3 := (k2.mono (fun _ _ x => x.elim)).trans ((Kept.refl _ _).grown p.grown (fun k hk _ => hk))
  have p3 : Blk w3 pb 51 #[lv, .pointer (some ⟨wb, 0, none⟩), .int .i64 retry, .int .i64 most] := M.p.kept k3 hlp
  have p4 : Blk (w3.setCell ⟨pb, 0, none⟩ v') pb 51 #[v', .pointer (some ⟨wb, 0, none⟩), .int .i64 retry, .int .i64 most] := Blk.set_ p3 0 v'
  have k4 : Kept (fun q => lv.ownBlock = some q ∨ q = pb) w (w3.setCell ⟨pb, 0, none⟩ v') := (k3.mono (fun _ _ h => .inl h)).setCell (fun _ => .inr rfl) _
  have hF4 : ∀ i, F i → ¬ (lv.ownBlock = some i ∨ i = pb) := fun i hi e => by
    rcases e with e | rfl
    · exact M.fl_ i e hi
    · exact M.fp hi
  have hvp : v'.ownBlock ≠ some pb := fun e => by
    rcases p.where_ pb e with h | h
    · exact hlp h
    · have h1 := M.p.lt
      have h2 := k2.size
      omega
  have r3 : RS 53 5 Bk.enc w3 v' (bs ++ [⟨hb, 0, 0, 0, retry⟩]) := RS.pushed p hn hcs
  have r4 : RS 53 5 Bk.enc (w3.setCell ⟨pb, 0, none⟩ v') v' (bs ++ [⟨hb, 0, 0, 0, retry⟩]) := r3.kept (F := fun q => q = pb) ((Kept.refl _ _).put _) (fun q hq e => hvp (by rw [hq, e]))
  have hlh : ∀ b ∈ bs, lv.ownBlock ≠ some b.hb := fun b hb' => M.r.ne_blk (t := 76) (M.b b hb').2.2.2.2.1 (by decide)
  have hph : ∀ b ∈ bs, b.hb ≠ pb := fun b hb' => Blk.ne_ (t := 76) (M.b b hb').2.2.2.2.1 M.p (by decide)
  have hb1 : hb < w1.heap.size := Blk.lt hm
  have hlnew : ∀ q, lv.ownBlock = some q → q ≠ hb := fun q hq e => by
    have := M.r.lt q hq
    omega
  have hm4 : HM (w3.setCell ⟨pb, 0, none⟩ v') hb fl rs hd 0 0 0 := by
    have h1 : Kept (fun q => lv.ownBlock = some q ∨ q = pb) w1 (w3.setCell ⟨pb, 0, none⟩ v') := (((Kept.refl _ _).alloc _).trans ((Kept.refl _ _).grown p.grown (fun k hk _ => .inl hk))).setCell (fun _ => .inr rfl) _
    refine hm.kept h1 (fun e => ?_)
    rcases e with e | e
    · exact hlnew hb e rfl
    · have := M.p.lt
      omega
  have hb4 : ∀ b ∈ bs ++ [⟨hb, 0, 0, 0, retry⟩], b.st = 0 ∧ b.load = 0 ∧ b.may = 0 ∧ b.wait = retry ∧ HM (w3.setCell ⟨pb, 0, none⟩ v') b.hb fl rs hd 0 0 0 ∧ w0.heap.size ≤ b.hb ∧ ¬ F b.hb := by
    intro b hb'
    rcases List.mem_append.1 hb' with h | h
    · obtain ⟨h1, h2, h3, h4, h5, h6, h7⟩ := M.b b h
      exact ⟨h1, h2, h3, h4, h5.kept k4 (fun e => by rcases e with e | e; exact hlh b h e; exact hph b h e), h6, h7⟩
    · simp only [List.mem_singleton] at h
      subst h
      have := M.kept.size
      exact ⟨rfl, rfl, rfl, rfl, hm4, by simp only; omega, fun e => by have := M.wa.lt _ e; simp only at this; omega⟩
  refine ⟨M.wa.kept k4 hF4, (Blk.cell p4 1).trans rfl, Blk.frozen p3 0, (Blk.cell p3 0).trans rfl, fun w5 F' sv' sl' ha ho g => ?_⟩
  rw [tdel_none (firstTims_none _)] at ha ho
  have hft := firstTims_succ bs.length
  have hlen : (bs ++ [Bk.mk hb 0 0 0 retry]).length = bs.length + 1 := by simp
  have hcast : ((bs.length + 1 : Nat) : Int) = (bs.length : Int) + 1 := by omega
  have hz : (0 : Int) + 1 = 1 := rfl
  rw [hz, ← hft] at ha ho
  have big : ∀ q, ¬ F q → q < (w3.setCell ⟨pb, 0, none⟩ v').heap.size → ¬ F' q := fun q hq hl h => by
    rcases g.home q h with h | h
    · exact hq h
    · omega
  have s04 : w0.heap.size ≤ (w3.setCell ⟨pb, 0, none⟩ v').heap.size := Nat.le_trans M.kept.size k4.size
  have hvF : ∀ q, v'.ownBlock = some q → ¬ F q := fun q hq hF => by
    rcases p.where_ q hq with h | h
    · exact M.fl_ q h hF
    · have h1 := M.wa.lt q hF
      have h2 := k2.size
      omega
  have hab : ¬ (lv.ownBlock = some ab ∨ ab = pb) := fun e => by
    rcases e with e | e
    · exact hla e
    · exact hpa e.symm
  have a4 := M.a.kept k4 hab
  refine ⟨a4.kept g.kept M.fa, p4.kept g.kept M.fp, r4.kept g.kept hvF, fun b hb' => ?_, ?_, ?_, fun q hq => ?_, big _ M.fp p4.lt, fun q hq => big _ (hvF q hq) (r4.lt q hq), big _ M.fa a4.lt, M.p0, fun q hq => ?_, ?_⟩
  · obtain ⟨h1, h2, h3, h4, h5, h6, h7⟩ := hb4 b hb'
    exact ⟨h1, h2, h3, h4, h5.kept g.kept h7, h6, big _ h7 (Blk.lt h5)⟩
  · rw [hlen, hcast]; exact ha
  · rw [hlen, hcast]; exact ho
  · rcases g.home q hq with h | h
    · exact M.f0 q h
    · omega
  · rcases p.where_ q hq with h | h
    · exact M.l0 q h
    · have h1 := M.kept.size
      have h2 := k2.size
      omega
  · have h1 : Kept (fun _ => False) w0 (w3.setCell ⟨pb, 0, none⟩ v') := M.kept.trans' k4 (fun i hi e => by
      rcases e with e | e
      · have := M.l0 i e; omega
      · have := M.p0; omega)
    exact h1.trans' g.kept (fun i hi e => by have := M.f0 i e; omega)

theorem wok_new : WOk 0 0 [] (List.replicate 64 []) := by
  have h : ∀ s, (List.replicate 64 ([] : List Int)).getD s [] = [] := by
    intro s
    simp only [List.getD_eq_getElem?_getD, List.getElem?_replicate]
    split <;> rfl
  refine ⟨by simp, by simp, by simp, by simp [ids], fun t ht => (by cases ht), fun s hs => ?_, fun s hs x => ?_⟩
  · rw [h]; exact List.nodup_nil
  · rw [h]; simp
theorem wheel_made {w w' : World} {b mb : Nat} (hb : w.heap.size ≤ b) (hmb : w.heap.size ≤ mb) (hw : WB w' b mb 0 0 (List.replicate 64 (.slice none 0 0))) (hm : IsMap encI w' mb []) :
    WheelAt w' b 0 0 [] (List.replicate 64 []) (fun k => k = b ∨ k = mb) mb (List.replicate 64 (.slice none 0 0)) := by
  have h : ∀ s, s < 64 → (List.replicate 64 (Value.slice none 0 0)).getD s undef = .slice none 0 0 := by
    intro s hs
    simp only [List.getD_eq_getElem?_getD, List.getElem?_replicate, hs, if_true]
    rfl
  have h2 : ∀ s, s < 64 → (List.replicate 64 ([] : List Int)).getD s [] = [] := by
    intro s hs
    simp only [List.getD_eq_getElem?_getD, List.getElem?_replicate, hs, if_true]
    rfl
  refine ⟨hw, hm, fun s hs => by rw [h s hs, h2 s hs]; exact RI.nil _, fun s s' hs hs' _ k hk => by rw [h s hs] at hk; simp [Value.ownBlock] at hk, .inl rfl, .inr rfl, fun s hs k hk => by rw [h s hs] at hk; simp [Value.ownBlock] at hk, fun k hk => ?_⟩
  rcases hk with rfl | rfl
  · exact Blk.lt hw.2
  · exact hm.lt

def NewR (w0 : World) (n ab : Nat) (fl rs hd retry most : Int) (pb wb : Nat) (i : Value) (wr : World) : Prop :=
  ∃ (bs : List Bk) (lv : Value) (F : Nat → Prop) (mb : Nat) (sl : List (List Int)) (sv : List Value), bs.length ≤ n ∧ i = .int .i64 bs.length ∧ Making w0 ab fl rs hd retry most pb wb bs lv F mb sl sv wr
def NewP (w0 : World) (n : Nat) (fl rs hd retry most : Int) (e : Ending) (w' : World) : Prop :=
  ∃ ab pb wb bs lv F mb sl sv, e = .returned (.tuple #[.pointer (some ⟨pb, 0, none⟩), .int .i64 0]) ∧ bs.length = n ∧ Making w0 ab fl rs hd retry most pb wb bs lv F mb sl sv w'

set_option maxHeartbeats 1000000 in
set_option maxRecDepth 20000 in
theorem pool_New (w : World) (n : Nat) (hn0 : 1 ≤ n) (hn : n ≤ 3) (fl rs hd retry most : Int) (hh : HealthOk fl rs hd) (h1 : 1 ≤ retry) (h2 : retry ≤ most) (h3 : most ≤ 1073741824) :
    Calls Try.prog 4 #[.int .i64 n, .agg #[.int .i64 fl, .int .i64 rs, .int .i64 hd], .int .i64 retry, .int .i64 most] w (NewP w n fl rs hd retry most) := by
  have hhn := fun w => health_New fl rs hd w hh
  have HHN := fun w => Lib.hid (hhn w)
  have g1 : decide ((n : Int) < 0) = false := by simp
  have g2 : decide (16 < (n : Int)) = false := by simp; omega
  have g3 : decide (most < retry) = false := by simp; omega
  clear hhn
  go_enter Try.func4, Try.ntmps4
  go_wp2_with fail
  refine (HHN _).out.mono ?_
  rintro e w1 ⟨hb, rfl, hb0, hm, hk1⟩
  go_wp2_with (go_at_call 13; refine (pool_ticks _ _ (by omega) (by omega)).mono ?_; rintro e w' ⟨rfl, rfl⟩)
  refine (wheel_New w1).mono ?_
  rintro e w2 ⟨wb, mb0, rfl, hwb, hmb, hWB, hMM, hk2⟩
  have hWA := wheel_made hwb hmb hWB hMM
  have s0 := hk1.size
  simp only [World.alloc, Array.size_push] at s0
  have s1 := hk2.size
  have sb := Blk.lt hWB.2
  have hwm := hMM.lt
  have start : Making w w.heap.size fl rs hd retry most w2.heap.size wb [] (.slice none 0 0) (fun k => k = wb ∨ k = mb0) mb0 (List.replicate 64 []) (List.replicate 64 (.slice none 0 0)) (w2.alloc (.cells #[.slice none 0 0, .pointer (some ⟨wb, 0, none⟩), .int .i64 retry, .int .i64 most] 51)) := by
    have k0 : Kept (fun _ => False) w2 (w2.alloc (.cells #[.slice none 0 0, .pointer (some ⟨wb, 0, none⟩), .int .i64 retry, .int .i64 most] 51)) := (Kept.refl _ _).alloc _
    refine ⟨((Blk.kept (Blk.new w 28 #[.int .i64 fl, .int .i64 rs, .int .i64 hd]) hk1 (fun x => x)).kept hk2 (fun x => x)).kept k0 (fun x => x), Blk.new _ _ _, RS.nil _, fun b hb => (by cases hb), hWA.kept k0 (fun _ _ x => x), wok_new, fun k hk => ?_, fun e => ?_, fun k hk => (by simp [Value.ownBlock] at hk), fun e => ?_, by omega, fun k hk => (by simp [Value.ownBlock] at hk), ((((Kept.refl _ _).alloc _).trans hk1).trans hk2).trans k0⟩
    · rcases hk with rfl | rfl <;> omega
    · rcases e with e | e <;> omega
    · rcases e with e | e <;> omega
  have ST := Lib.hid (show NewR w n w.heap.size fl rs hd retry most w2.heap.size wb (.int .i64 0) _ from ⟨[], _, _, _, _, _, Nat.zero_le _, rfl, start⟩)
  have HWB := Lib.hid hWB
  clear start hWA hWB hMM hm hk1 hk2 s0 s1 sb hwm hwb hmb hb0
  go_wp2_with fail
  generalize hpb : w2.heap.size = pb at ST ⊢
  generalize hab : w.heap.size = ab at ST ⊢
  have HPB := Lib.hid hpb
  have HAB := Lib.hid hab
  clear hpb hab
  go_loopw [52] (NewR w n ab fl rs hd retry most pb wb) (fun i _ => n - (intOf i).toNat)
  case atStart => exact ST.out
  obtain ⟨bs, lv, F, mb, sl, sv, hk, rfl, M⟩ := hrel
  rcases Nat.lt_or_ge bs.length n with hlt | hge
  · have a0 : wr.cell? ⟨ab, 0, none⟩ = some (.int .i64 fl) := (Blk.cell M.a 0).trans rfl
    have a1 : wr.cell? ⟨ab, 1, none⟩ = some (.int .i64 rs) := (Blk.cell M.a 1).trans rfl
    have a2 : wr.cell? ⟨ab, 2, none⟩ = some (.int .i64 hd) := (Blk.cell M.a 2).trans rfl
    have HM := Lib.hid M
    clear M
    go_wp2_with fail
    refine (HHN _).out.mono ?_
    rintro e w4 ⟨hb', rfl, hb0', hm', hk4⟩
    have p0 : w4.cell? ⟨pb, 0, none⟩ = some lv := (Blk.cell (HM.out.p.kept hk4 (fun x => x)) 0).trans rfl
    have r5 : RS 53 5 Bk.enc (w4.alloc (.cells #[.pointer (some ⟨hb', 0, none⟩), .int .i64 0, .int .i64 0, .int .i64 0, .int .i64 retry] 53)) lv bs := HM.out.r.kept (hk4.alloc _) (fun _ _ x => x)
    have R5 := Lib.hid r5
    have HM4 := Lib.hid hm'
    have HK4 := Lib.hid hk4
    clear r5 hm' hk4
    obtain ⟨i0', hi, hz0', hz1, hz2⟩ := info_parts (P := Try.prog) (e := 53) (z := .agg #[.pointer none, .int .i64 0, .int .i64 0, .int .i64 0, .int .i64 0]) (size := 5) (bytes := 40) (by kernel_rfl)
    go_wp2_with (at_builtin; refine wpList_push _ rfl _ _ 49 rfl 53 i0' (.agg #[.pointer none, .int .i64 0, .int .i64 0, .int .i64 0, .int .i64 0]) 5 40 Try.underlying49 hi hz0' hz1 hz2 rfl (by decide) _ bs.length (bs.flatMap Bk.enc) rfl R5.out ⟨w4.heap.size, 0, none⟩ 1 1 [.pointer (some ⟨hb', 0, none⟩), .int .i64 0, .int .i64 0, .int .i64 0, .int .i64 retry] rfl rfl ?c1 ?c2 ?c3 ?c4 ?c5)
    case c1 => exact cells_new w4 _ [.pointer (some ⟨hb', 0, none⟩), .int .i64 0, .int .i64 0, .int .i64 0, .int .i64 retry]
    case c2 =>
      intro u hu
      simp only [List.mem_cons, List.not_mem_nil, or_false] at hu
      rcases hu with rfl | rfl | rfl | rfl | rfl <;> rfl
    case c3 => unfold maxLen; omega
    case c4 => omega
    case c5 =>
      intro v' w6 hp
      obtain ⟨ao, n', c', rfl⟩ := hp.slice
      obtain ⟨hwa, hc1, hf0, hc0, hfin⟩ := HM.out.next HK4.out HM4.out hb0' hp rfl rfl
      have hset := wheel_Set hwa HM.out.wo (by omega) (by omega) (by have := HM.out.wo.few; simp; omega) (bs.length : Nat) 1 (by omega) (by omega) (by omega) (by omega)
      have HSET := Lib.hid hset
      have HFIN := Lib.hid hfin
      clear hset hfin hp hwa p0 a0 a1 a2
      go_wp2_with fail
      refine HSET.out.mono ?_
      rintro e w7 ⟨rfl, F', sv', sl', ha7, ho7, hg7⟩
      have M7 := HFIN.out w7 F' sv' sl' ha7 ho7 hg7
      have rel : NewR w n ab fl rs hd retry most pb wb (.int .i64 ((bs.length : Int) + 1)) w7 := ⟨_, _, _, _, _, _, by simp; omega, by simp, M7⟩
      have HREL := Lib.hid rel
      clear rel M7 ha7 ho7 hg7 hc1 hf0 hc0
      go_wp2_with fail
      go_roundw
      case rel => exact HREL.out
      case measure => simp [intOf]; omega
  · have hn2 : bs.length = n := by omega
    have HT := Lib.hid (show NewP w n fl rs hd retry most (.returned (.tuple #[.pointer (some ⟨pb, 0, none⟩), .int .i64 0])) wr from ⟨ab, pb, wb, bs, lv, F, mb, sl, sv, rfl, hn2, M⟩)
    have hcast : ((bs.length : Nat) : Int) = (n : Int) := by omega
    clear M hn2
    go_wp2_with fail
    go_ret2
    exact HT.out
end Go.Proofs.Ytchgieogdinglaa
