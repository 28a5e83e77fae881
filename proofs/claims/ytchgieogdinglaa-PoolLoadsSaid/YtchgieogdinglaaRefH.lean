/- The reference: wheel.New, pool.New. -/
import Derived.Test.YtchgieogdinglaaRefG
set_option linter.unusedSimpArgs false
set_option linter.unusedVariables false
namespace Go.Proofs.Ytchgieogdinglaa
open Go.RowKit
open Ser

set_option maxHeartbeats 400000 in
theorem ref_wNew (w : World) (n : Nat) (hn : n ≤ 1000) : Calls Try.prog 17 #[] w fun e w' => ∃ b, e = .returned (.pointer (some ⟨b, 0, none⟩)) ∧ w.heap.size ≤ b ∧ RW w' b n 0 0 (.slice none 0 0) [] ∧ Kept (fun _ => False) w w' := by
  go_enter Try.func17, Try.ntmps17
  go_wp2
  go_ret
  exact ⟨w.heap.size, rfl, Nat.le_refl _, ⟨Blk.new _ _ _, RS.nil _, Int.le_refl _, Int.le_refl _, hn, by simp, by simp⟩, (Kept.refl _ _).alloc _⟩

/-- A reference's pool that is being made. -/
structure RMaking (w0 : World) (n ab : Nat) (fl rs hd retry most : Int) (pb wb : Nat) (bs : List Bk) (lv : Value) (K N : Int) (wlv : Value) (L : List Rt) (w : World) : Prop where
  a : Blk w ab 28 #[.int .i64 fl, .int .i64 rs, .int .i64 hd]
  p : Blk w pb 62 #[lv, .pointer (some ⟨wb, 0, none⟩), .int .i64 retry, .int .i64 most]
  r : RS 64 5 Bk.enc w lv bs
  b : ∀ b ∈ bs, b.load = 0 ∧ b.wait = retry ∧ RM w b.hb 0 ∧ w0.heap.size ≤ b.hb
  k : K ≤ bs.length
  k0 : 0 ≤ K
  w_ : RW w wb n K N wlv L
  w0_ : w0.heap.size ≤ wb
  p0 : w0.heap.size ≤ pb
  l0 : ∀ k, lv.ownBlock = some k → w0.heap.size ≤ k
  wl0 : ∀ k, wlv.ownBlock = some k → w0.heap.size ≤ k
  kept : Kept (fun _ => False) w0 w

theorem RMaking.next {w0 w w1 w3 : World} {n ab : Nat} {fl rs hd retry most : Int} {pb wb : Nat} {bs : List Bk} {lv : Value} {K N : Int} {wlv : Value} {L : List Rt} (M : RMaking w0 n ab fl rs hd retry most pb wb bs lv K N wlv L w)
    {hb : Nat} (k1 : Kept (fun _ => False) w w1) (hm : RM w1 hb 0) (h0 : w.heap.size ≤ hb) {o : Obj} {m : Nat} {cs : List Value} {v' : Value} (p : Pushed (w1.alloc o) 64 5 lv m cs v' w3) (hn : m = bs.length + 1) (hcs : cs = bs.flatMap Bk.enc ++ (Bk.mk hb 0 0 0 retry).enc) :
    RW (w3.setCell ⟨pb, 0, none⟩ v') wb n K N wlv L ∧ (w3.setCell ⟨pb, 0, none⟩ v').cell? ⟨pb, 1, none⟩ = some (.pointer (some ⟨wb, 0, none⟩)) ∧ w3.frozen? ⟨pb, 0, none⟩ = false ∧ w3.cell? ⟨pb, 0, none⟩ = some lv ∧
    ∀ w5 e, RWDone (w3.setCell ⟨pb, 0, none⟩ v') wb n (K + 1) wlv (fun _ => True) e w5 → ∃ N' wlv' L', RMaking w0 n ab fl rs hd retry most pb wb (bs ++ [⟨hb, 0, 0, 0, retry⟩]) v' (K + 1) N' wlv' L' w5 := by
  have hlp : lv.ownBlock ≠ some pb := M.r.ne_blk M.p (by decide)
  have hla : lv.ownBlock ≠ some ab := M.r.ne_blk M.a (by decide)
  have hlw : lv.ownBlock ≠ some wb := M.r.ne_blk M.w_.b (by decide)
  have hpa : pb ≠ ab := Blk.ne_ M.p M.a (by decide)
  have hpw : pb ≠ wb := Blk.ne_ M.p M.w_.b (by decide)
  have k2 : Kept (fun _ => False) w (w1.alloc o) := k1.alloc _
  have k3 : Kept (fun q => lv.ownBlock = some q) w w3 := (k2.mono (fun _ _ x => x.elim)).trans ((Kept.refl _ _).grown p.grown (fun k hk _ => hk))
  have p3 : Blk w3 pb 62 #[lv, .pointer (some ⟨wb, 0, none⟩), .int .i64 retry, .int .i64 most] := M.p.kept k3 hlp
  have p4 : Blk (w3.setCell ⟨pb, 0, none⟩ v') pb 62 #[v', .pointer (some ⟨wb, 0, none⟩), .int .i64 retry, .int .i64 most] := Blk.set_ p3 0 v'
  have k4 : Kept (fun q => lv.ownBlock = some q ∨ q = pb) w (w3.setCell ⟨pb, 0, none⟩ v') := (k3.mono (fun _ _ h => .inl h)).setCell (fun _ => .inr rfl) _
  have hvp : v'.ownBlock ≠ some pb := fun e => by
    rcases p.where_ pb e with h | h
    · exact hlp h
    · have h1 := M.p.lt
      have h2 := k2.size
      omega
  have r3 : RS 64 5 Bk.enc w3 v' (bs ++ [⟨hb, 0, 0, 0, retry⟩]) := RS.pushed p hn hcs
  have r4 : RS 64 5 Bk.enc (w3.setCell ⟨pb, 0, none⟩ v') v' (bs ++ [⟨hb, 0, 0, 0, retry⟩]) := r3.kept (F := fun q => q = pb) ((Kept.refl _ _).put _) (fun q hq e => hvp (by rw [hq, e]))
  have rw4 : RW (w3.setCell ⟨pb, 0, none⟩ v') wb n K N wlv L := M.w_.kept k4 (fun e => by rcases e with e | e; exact hlw e; exact hpw e.symm) (fun q hq e => by
    rcases e with e | e
    · exact own_ne M.r M.w_.r (by decide) q e hq
    · exact M.w_.r.ne_blk M.p (by decide) (by rw [hq, e]))
  have hb1 : hb < w1.heap.size := by obtain ⟨_, _, _, _, _, _, h1, _⟩ := hm; exact Blk.lt h1
  have hm4 : RM (w3.setCell ⟨pb, 0, none⟩ v') hb 0 := by
    have h1 : Kept (fun q => lv.ownBlock = some q ∨ q = pb) w1 (w3.setCell ⟨pb, 0, none⟩ v') := (((Kept.refl _ _).alloc _).trans ((Kept.refl _ _).grown p.grown (fun k hk _ => .inl hk))).setCell (fun _ => .inr rfl) _
    refine hm.kept h1 (fun e => ?_)
    rcases e with e | e
    · have := M.r.lt hb e; omega
    · have := M.p.lt; omega
  have hb4 : ∀ b ∈ bs ++ [⟨hb, 0, 0, 0, retry⟩], b.load = 0 ∧ b.wait = retry ∧ RM (w3.setCell ⟨pb, 0, none⟩ v') b.hb 0 ∧ w0.heap.size ≤ b.hb := by
    intro b hb'
    rcases List.mem_append.1 hb' with h | h
    · obtain ⟨h2, h4, h5, h6⟩ := M.b b h
      exact ⟨h2, h4, h5.kept k4 (fun e => by rcases e with e | e; exact h5.ne_own M.r (by decide) e; exact h5.ne_ M.p (by decide) e), h6⟩
    · simp only [List.mem_singleton] at h
      subst h
      have := M.kept.size
      exact ⟨rfl, rfl, hm4, by simp only; omega⟩
  have s04 : w0.heap.size ≤ (w3.setCell ⟨pb, 0, none⟩ v').heap.size := Nat.le_trans M.kept.size k4.size
  have a4 := M.a.kept k4 (fun e => by rcases e with e | e; exact hla e; exact hpa e.symm)
  refine ⟨rw4, (Blk.cell p4 1).trans rfl, Blk.frozen p3 0, (Blk.cell p3 0).trans rfl, fun w5 e hd => ?_⟩
  obtain ⟨_, N', wlv', L', _, hw', hk', hl'⟩ := hd
  refine ⟨N', wlv', L', a4.kept hk' (fun e => ?_), p4.kept hk' (fun e => ?_), r4.kept hk' (fun q hq e => ?_), fun b hb' => ?_, ?_, by have := M.k0; omega, hw', M.w0_, M.p0, fun q hq => ?_, fun q hq => ?_, ?_⟩
  · rcases e with e | e
    · exact Blk.ne_ a4 rw4.b (by decide) e
    · exact rw4.r.ne_blk a4 (by decide) e
  · rcases e with e | e
    · exact hpw e
    · exact rw4.r.ne_blk p4 (by decide) e
  · rcases e with e | e
    · exact r4.ne_blk rw4.b (by decide) (by rw [hq, e])
    · exact own_ne r4 rw4.r (by decide) q hq e
  · obtain ⟨h2, h4, h5, h6⟩ := hb4 b hb'
    exact ⟨h2, h4, h5.kept hk' (fun e => by rcases e with e | e; exact h5.ne_ rw4.b (by decide) e; exact h5.ne_own rw4.r (by decide) e), h6⟩
  · have := M.k; simp; omega
  · rcases p.where_ q hq with h | h
    · exact M.l0 q h
    · have h1 := M.kept.size
      have h2 := k2.size
      omega
  · rcases hl' q hq with h | h
    · exact M.wl0 q h
    · omega
  · have h1 : Kept (fun _ => False) w0 (w3.setCell ⟨pb, 0, none⟩ v') := M.kept.trans' k4 (fun i hi e => by
      rcases e with e | e
      · have := M.l0 i e; omega
      · have := M.p0; omega)
    exact h1.trans' hk' (fun i hi e => by
      rcases e with e | e
      · have := M.w0_; omega
      · have := M.wl0 i e; omega)

def RNewR (w0 : World) (n ab : Nat) (fl rs hd retry most : Int) (pb wb : Nat) (i : Value) (wr : World) : Prop :=
  ∃ (bs : List Bk) (lv : Value) (K N : Int) (wlv : Value) (L : List Rt), bs.length ≤ n ∧ i = .int .i64 bs.length ∧ RMaking w0 n ab fl rs hd retry most pb wb bs lv K N wlv L wr
def RNewP (w0 : World) (n : Nat) (fl rs hd retry most : Int) (e : Ending) (w' : World) : Prop :=
  ∃ ab pb wb bs lv K N wlv L, e = .returned (.tuple #[.pointer (some ⟨pb, 0, none⟩), .int .i64 0]) ∧ bs.length = n ∧ RMaking w0 n ab fl rs hd retry most pb wb bs lv K N wlv L w'

set_option maxHeartbeats 1000000 in
set_option maxRecDepth 20000 in
theorem ref_PNew (w : World) (n : Nat) (hn0 : 1 ≤ n) (hn : n ≤ 3) (fl rs hd retry most : Int) (hh : HealthOk fl rs hd) (h1 : 1 ≤ retry) (h2 : retry ≤ most) (h3 : most ≤ 1073741824) :
    Calls Try.prog 5 #[.int .i64 n, .agg #[.int .i64 fl, .int .i64 rs, .int .i64 hd], .int .i64 retry, .int .i64 most] w (RNewP w n fl rs hd retry most) := by
  have HHN := fun w => Lib.hid (ref_hNew fl rs hd w hh)
  have g1 : decide ((n : Int) < 0) = false := by simp
  have g2 : decide (16 < (n : Int)) = false := by simp; omega
  have g3 : decide (most < retry) = false := by simp; omega
  have g4 : decide (retry < 1) = false := by simp; omega
  have g5 : decide (1073741824 < retry) = false := by simp; omega
  have g6 : decide (most < 1) = false := by simp; omega
  have g7 : decide (1073741824 < most) = false := by simp; omega
  go_enter Try.func5, Try.ntmps5
  go_wp2_with fail
  refine (HHN _).out.mono ?_
  rintro e w1 ⟨hb, rfl, hb0, hm, hk1⟩
  go_wp2_with fail
  refine (ref_wNew w1 n (by omega)).mono ?_
  rintro e w2 ⟨wb, rfl, hwb, hRW, hk2⟩
  have s0 := hk1.size
  simp only [World.alloc, Array.size_push] at s0
  have s1 := hk2.size
  have start : RMaking w n w.heap.size fl rs hd retry most w2.heap.size wb [] (.slice none 0 0) 0 0 (.slice none 0 0) [] (w2.alloc (.cells #[.slice none 0 0, .pointer (some ⟨wb, 0, none⟩), .int .i64 retry, .int .i64 most] 62)) := by
    have k0 : Kept (fun _ => False) w2 (w2.alloc (.cells #[.slice none 0 0, .pointer (some ⟨wb, 0, none⟩), .int .i64 retry, .int .i64 most] 62)) := (Kept.refl _ _).alloc _
    exact ⟨((Blk.kept (Blk.new w 28 #[.int .i64 fl, .int .i64 rs, .int .i64 hd]) hk1 (fun x => x)).kept hk2 (fun x => x)).kept k0 (fun x => x), Blk.new _ _ _, RS.nil _, fun b hb => (by cases hb), by simp, by omega, hRW.kept k0 (fun x => x) (fun _ _ x => x), by omega, by omega, fun k hk => (by simp [Value.ownBlock] at hk), fun k hk => (by simp [Value.ownBlock] at hk), ((((Kept.refl _ _).alloc _).trans hk1).trans hk2).trans k0⟩
  have ST := Lib.hid (show RNewR w n w.heap.size fl rs hd retry most w2.heap.size wb (.int .i64 0) _ from ⟨[], _, _, _, _, _, Nat.zero_le _, rfl, start⟩)
  clear start hRW hm hk1 hk2 s0 s1 hwb hb0
  go_wp2_with fail
  generalize hpb : w2.heap.size = pb at ST ⊢
  generalize hab : w.heap.size = ab at ST ⊢
  have HPB := Lib.hid hpb
  have HAB := Lib.hid hab
  clear hpb hab
  go_loopw [13] (RNewR w n ab fl rs hd retry most pb wb) (fun i _ => n - (intOf i).toNat)
  case atStart => exact ST.out
  obtain ⟨bs, lv, K, N, wlv, L, hk, rfl, M⟩ := hrel
  rcases Nat.lt_or_ge bs.length n with hlt | hge
  · have a0 : wr.cell? ⟨ab, 0, none⟩ = some (.int .i64 fl) := (Blk.cell M.a 0).trans rfl
    have a1 : wr.cell? ⟨ab, 1, none⟩ = some (.int .i64 rs) := (Blk.cell M.a 1).trans rfl
    have a2 : wr.cell? ⟨ab, 2, none⟩ = some (.int .i64 hd) := (Blk.cell M.a 2).trans rfl
    have HM := Lib.hid M
    clear M
    go_wp2_with fail
    refine (HHN _).out.mono ?_
    rintro e w4 ⟨hb', rfl, hb0', hm', hk4⟩
    have p0 : w4.cell? ⟨pb, 0, none⟩ = some lv := (Blk.cell (HM.out.p.kept hk4 (fun x => x)) 0).trans rfl
    have r5 : RS 64 5 Bk.enc (w4.alloc (.cells #[.pointer (some ⟨hb', 0, none⟩), .int .i64 0, .int .i64 0, .int .i64 0, .int .i64 retry] 64)) lv bs := HM.out.r.kept (hk4.alloc _) (fun _ _ x => x)
    have R5 := Lib.hid r5
    have HM4 := Lib.hid hm'
    have HK4 := Lib.hid hk4
    clear r5 hm' hk4
    obtain ⟨i0', hi, hz0', hz1, hz2⟩ := info_parts (P := Try.prog) (e := 64) (z := .agg #[.pointer none, .int .i64 0, .int .i64 0, .int .i64 0, .int .i64 0]) (size := 5) (bytes := 40) (by kernel_rfl)
    go_wp2_with (at_builtin; refine wpList_push _ rfl _ _ 60 rfl 64 i0' (.agg #[.pointer none, .int .i64 0, .int .i64 0, .int .i64 0, .int .i64 0]) 5 40 Try.underlying60 hi hz0' hz1 hz2 rfl (by decide) _ bs.length (bs.flatMap Bk.enc) rfl R5.out ⟨w4.heap.size, 0, none⟩ 1 1 [.pointer (some ⟨hb', 0, none⟩), .int .i64 0, .int .i64 0, .int .i64 0, .int .i64 retry] rfl rfl ?c1 ?c2 ?c3 ?c4 ?c5)
    case c1 => exact cells_new w4 _ [.pointer (some ⟨hb', 0, none⟩), .int .i64 0, .int .i64 0, .int .i64 0, .int .i64 retry]
    case c2 =>
      intro u hu
      simp only [List.mem_cons, List.not_mem_nil, or_false] at hu
      rcases hu with rfl | rfl | rfl | rfl | rfl <;> rfl
    case c3 => unfold maxLen; omega
    case c4 => omega
    case c5 =>
      intro v' w6 hp
      obtain ⟨ao, n', c', rfl⟩ := hp.slice
      obtain ⟨hrw, hc1, hf0, hc0, hfin⟩ := HM.out.next HK4.out HM4.out hb0' hp rfl rfl
      have hkb := HM.out.k
      have hset := ref_Set hrw (by omega) (bs.length : Nat) 1 (by omega) (by omega)
      have HSET := Lib.hid hset
      have HFIN := Lib.hid hfin
      clear hset hfin hp hrw p0 a0 a1 a2
      go_wp2_with fail
      refine HSET.out.mono ?_
      intro e w7 hdone
      obtain ⟨v, rfl⟩ := hdone.1
      obtain ⟨N', wlv', L', M7⟩ := HFIN.out w7 _ hdone
      have HREL := Lib.hid (show RNewR w n ab fl rs hd retry most pb wb (.int .i64 ((bs.length : Int) + 1)) w7 from ⟨_, _, _, _, _, _, by simp; omega, by simp, M7⟩)
      clear M7 hdone hc1 hf0 hc0
      go_wp2_with fail
      go_roundw
      case rel => exact HREL.out
      case measure => simp [intOf]; omega
  · have hn2 : bs.length = n := by omega
    have HT := Lib.hid (show RNewP w n fl rs hd retry most (.returned (.tuple #[.pointer (some ⟨pb, 0, none⟩), .int .i64 0])) wr from ⟨ab, pb, wb, bs, lv, K, N, wlv, L, rfl, hn2, M⟩)
    have hcast : ((bs.length : Nat) : Int) = (n : Int) := by omega
    clear M hn2
    go_wp2_with fail
    go_ret2
    exact HT.out
end Go.Proofs.Ytchgieogdinglaa
