/- The pool's invariant; the calls that reach the wheel and the health models. -/
import Derived.Test.YtchgieogdinglaaPoolC
set_option linter.unusedSimpArgs false
set_option linter.unusedVariables false
namespace Go.Proofs.Ytchgieogdinglaa
open Go.RowKit
open Ser

/-- What does not turn of a pool. -/
structure PC where
  pb : Nat
  lb : Nat
  cap : Nat
  wb : Nat
  retry : Int
  most : Int
  fl : Int
  rs : Int
  hd : Int

def BkOk (c : PC) (N : Int) (b : Bk) : Prop := 0 ≤ b.load ∧ b.load ≤ N ∧ 0 ≤ b.may ∧ b.may ≤ 9223372036854775807 ∧ 1 ≤ b.wait ∧ b.wait ≤ c.most
def HOk (c : PC) (N : Int) (w : World) (hb : Nat) : Prop := ∃ st rn ho, HM w hb c.fl c.rs c.hd st rn ho ∧ (st = 0 ∨ st = 1) ∧ 0 ≤ rn ∧ rn ≤ N ∧ 0 ≤ ho ∧ ho ≤ 1073741824

/-- The wheel of a pool of n backends: its timers' numbers are below n. -/
structure PW (w : World) (wb n : Nat) (N : Int) (F : Nat → Prop) (mb : Nat) (now set : Int) (ts : List Tim) (sl : List (List Int)) (sv : List Value) : Prop where
  at_ : WheelAt w wb now set ts sl F mb sv
  ok : WOk now set ts sl
  nN : now ≤ N
  sN : set ≤ N
  few : ∀ t ∈ ts, t.1 < n

structure PInv (c : PC) (w : World) (bs : List Bk) (N : Int) (G : Nat → Prop) : Prop where
  p : PB 51 w c.pb c.lb bs.length c.cap c.wb c.retry c.most
  r : BR 53 w c.lb c.cap bs
  n : bs.length ≤ 1000
  b : ∀ b ∈ bs, BkOk c N b
  h : ∀ b ∈ bs, HOk c N w b.hb
  wh : ∃ F mb now set ts sl sv, PW w c.wb bs.length N F mb now set ts sl sv ∧ (∀ k, F k → G k) ∧ ¬ F c.pb ∧ ¬ F c.lb ∧ ∀ b ∈ bs, ¬ F b.hb
  gp : G c.pb
  gl : G c.lb
  gh : ∀ b ∈ bs, G b.hb
  lt : ∀ k, G k → k < w.heap.size
  c0 : (c.fl == 0) = false
  c1 : 1 ≤ c.retry ∧ c.retry ≤ c.most ∧ c.most ≤ 1073741824
  c2 : 0 ≤ c.hd ∧ c.hd ≤ 1073741824
  n0 : 0 ≤ N

theorem BkOk.more {c : PC} {N N' : Int} {b : Bk} (h : BkOk c N b) (hN : N ≤ N') : BkOk c N' b := ⟨h.1, by have := h.2.1; omega, h.2.2⟩
theorem HOk.more {c : PC} {N N' : Int} {w : World} {b : Nat} (h : HOk c N w b) (hN : N ≤ N') : HOk c N' w b := by
  obtain ⟨st, rn, ho, h1, h2, h3, h4, h5⟩ := h
  exact ⟨st, rn, ho, h1, h2, h3, by omega, h5⟩
theorem HOk.kept {F : Nat → Prop} {c : PC} {N : Int} {w w1 : World} {b : Nat} (h : HOk c N w b) (k : Kept F w w1) (hb : ¬ F b) : HOk c N w1 b := by
  obtain ⟨st, rn, ho, h1, h2⟩ := h
  exact ⟨st, rn, ho, h1.kept k hb, h2⟩
theorem PW.kept {F H : Nat → Prop} {w w1 : World} {wb n : Nat} {N N' : Int} {mb : Nat} {now set : Int} {ts : List Tim} {sl : List (List Int)} {sv : List Value} (h : PW w wb n N F mb now set ts sl sv) (k : Kept H w w1) (hF : ∀ i, F i → ¬ H i) (hN : N ≤ N') : PW w1 wb n N' F mb now set ts sl sv :=
  ⟨h.at_.kept k hF, h.ok, by have := h.nN; omega, by have := h.sN; omega, h.few⟩

section
variable {c : PC} {w w1 : World} {bs bs' : List Bk} {N N' : Int} {G : Nat → Prop}
theorem PInv.lb_hb (I : PInv c w bs N G) : ∀ b ∈ bs, b.hb ≠ c.lb := fun b hb e => by
  obtain ⟨st, rn, ho, h1, _⟩ := I.h b hb
  exact I.r.ne_blk (t := 76) h1 (by decide) e.symm
theorem PInv.lb_pb (I : PInv c w bs N G) : c.lb ≠ c.pb := I.r.ne_blk I.p (by decide)
theorem PInv.pb_hb (I : PInv c w bs N G) : ∀ b ∈ bs, b.hb ≠ c.pb := fun b hb e => by
  obtain ⟨st, rn, ho, h1, _⟩ := I.h b hb
  exact Blk.ne_ (t := 76) h1 I.p (by decide) e

/-- The row alone has turned. -/
theorem PInv.rowed (I : PInv c w bs N G) (hr : BR 53 w1 c.lb c.cap bs') (k : Kept (fun k => k = c.lb) w w1) (hl : bs'.length = bs.length) (hN : N ≤ N') (hb : ∀ b' ∈ bs', BkOk c N' b' ∧ ∃ b ∈ bs, b'.hb = b.hb) : PInv c w1 bs' N' G := by
  obtain ⟨F, mb, now, set, ts, sl, sv, hw, hFG, hFp, hFl, hFh⟩ := I.wh
  refine ⟨?_, hr, by rw [hl]; exact I.n, fun b hb' => (hb b hb').1, fun b' hb' => ?_, ⟨F, mb, now, set, ts, sl, sv, ?_, hFG, hFp, hFl, fun b' hb' => ?_⟩, I.gp, I.gl, fun b' hb' => ?_, fun i hi => Nat.lt_of_lt_of_le (I.lt i hi) k.size, I.c0, I.c1, I.c2, by have := I.n0; omega⟩
  · rw [hl]; exact I.p.kept k (fun e => I.lb_pb e.symm)
  · obtain ⟨_, b, hb1, e⟩ := hb b' hb'
    rw [e]
    exact ((I.h b hb1).more hN).kept k (I.lb_hb b hb1)
  · rw [hl]; exact hw.kept k (fun i hi e => hFl (by rw [← e]; exact hi)) hN
  · obtain ⟨_, b, hb1, e⟩ := hb b' hb'
    rw [e]; exact hFh b hb1
  · obtain ⟨_, b, hb1, e⟩ := hb b' hb'
    rw [e]; exact I.gh b hb1
/-- A store into a backend keeps the invariant where the new backend is one. -/
theorem PInv.put (I : PInv c w bs N G) {k : Nat} {b x : Bk} (hb : bs[k]? = some b) (hr : BR 53 w1 c.lb c.cap (bs.set k x)) (kk : Kept (fun k => k = c.lb) w w1) (hN : N ≤ N') (hx : BkOk c N' x) (hh : x.hb = b.hb) : PInv c w1 (bs.set k x) N' G :=
  I.rowed hr kk (by simp) hN fun b' hb' => by
    rcases List.mem_or_eq_of_mem_set hb' with h | rfl
    · exact ⟨(I.b b' h).more hN, b', h, rfl⟩
    · exact ⟨hx, b, List.mem_of_getElem? hb, hh⟩
/-- Nothing of it has turned. -/
theorem PInv.kept {H : Nat → Prop} (I : PInv c w bs N G) (k : Kept H w w1) (hH : ∀ i, G i → ¬ H i) (hN : N ≤ N') : PInv c w1 bs N' G := by
  obtain ⟨F, mb, now, set, ts, sl, sv, hw, hFG, hFp, hFl, hFh⟩ := I.wh
  exact ⟨I.p.kept k (hH _ I.gp), I.r.kept k (hH _ I.gl), I.n, fun b hb => (I.b b hb).more hN, fun b hb => ((I.h b hb).more hN).kept k (hH _ (I.gh b hb)),
    ⟨F, mb, now, set, ts, sl, sv, hw.kept k (fun i hi => hH i (hFG i hi)) hN, hFG, hFp, hFl, hFh⟩, I.gp, I.gl, I.gh, fun i hi => Nat.lt_of_lt_of_le (I.lt i hi) k.size, I.c0, I.c1, I.c2, by have := I.n0; omega⟩
/-- One health model has turned. -/
theorem PInv.healed (I : PInv c w bs N G) {hb : Nat} {b0 : Bk} (hb0 : b0 ∈ bs) (e0 : b0.hb = hb) (k : Kept (fun k => k = hb) w w1) (hh : HOk c N' w1 hb) (hN : N ≤ N') : PInv c w1 bs N' G := by
  obtain ⟨F, mb, now, set, ts, sl, sv, hw, hFG, hFp, hFl, hFh⟩ := I.wh
  refine ⟨I.p.kept k (fun e => I.pb_hb b0 hb0 (by rw [e0, e])), I.r.kept k (fun e => I.lb_hb b0 hb0 (by rw [e0, e])), I.n, fun b hb => (I.b b hb).more hN, fun b hb1 => ?_,
    ⟨F, mb, now, set, ts, sl, sv, hw.kept k (fun i hi e => hFh b0 hb0 (by rw [e0, ← e]; exact hi)) hN, hFG, hFp, hFl, hFh⟩, I.gp, I.gl, I.gh, fun i hi => Nat.lt_of_lt_of_le (I.lt i hi) k.size, I.c0, I.c1, I.c2, by have := I.n0; omega⟩
  by_cases e : b.hb = hb
  · rw [e]; exact hh
  · exact ((I.h b hb1).more hN).kept k e
/-- Its wheel has turned. -/
theorem PInv.wheeled {F F' : Nat → Prop} {mb : Nat} {now set : Int} {ts : List Tim} {sl : List (List Int)} {sv : List Value} (I : PInv c w bs N G) (hFG : ∀ k, F k → G k) (hFp : ¬ F c.pb) (hFl : ¬ F c.lb) (hFh : ∀ b ∈ bs, ¬ F b.hb)
    (g : Grew F w F' w1) (hw : PW w1 c.wb bs.length N' F' mb now set ts sl sv) (hN : N ≤ N') : ∃ G', PInv c w1 bs N' G' ∧ Grew G w G' w1 := by
  have old : ∀ q, G q → ¬ F q → ¬ F' q := fun q hq hn h => by
    rcases g.home q h with h | h
    · exact hn h
    · have := I.lt q hq; omega
  refine ⟨fun k => G k ∨ F' k, ⟨I.p.kept g.kept hFp, I.r.kept g.kept hFl, I.n, fun b hb => (I.b b hb).more hN, fun b hb => ((I.h b hb).more hN).kept g.kept (hFh b hb),
    ⟨F', mb, now, set, ts, sl, sv, hw, fun k hk => .inr hk, old _ I.gp hFp, old _ I.gl hFl, fun b hb => old _ (I.gh b hb) (hFh b hb)⟩, .inl I.gp, .inl I.gl, fun b hb => .inl (I.gh b hb), fun k hk => ?_, I.c0, I.c1, I.c2, by have := I.n0; omega⟩,
    ⟨g.kept.mono (fun k _ h => hFG k h), fun k hk => ?_⟩⟩
  · rcases hk with h | h
    · exact Nat.lt_of_lt_of_le (I.lt k h) g.kept.size
    · exact hw.at_.lt k h
  · rcases hk with h | h
    · exact .inl h
    · rcases g.home k h with h | h
      · exact .inl (hFG k h)
      · exact .inr h

/-- p.timers.Set at a backend's number. -/
theorem pool_set (I : PInv c w bs N G) (hN : N ≤ 576460752303423488) {k : Nat} (hk : k < bs.length) (after : Int) (a0 : 1 ≤ after) (a1 : after ≤ 1073741824) :
    Calls Try.prog 15 #[.pointer (some ⟨c.wb, 0, none⟩), .int .i64 k, .int .i64 after] w fun e w' => e = .returned (.int .i64 0) ∧ ∃ G', PInv c w' bs (N + 1) G' ∧ Grew G w G' w' := by
  obtain ⟨F, mb, now, set, ts, sl, sv, hw, hFG, hFp, hFl, hFh⟩ := I.wh
  have h1 := hw.nN
  have h2 := hw.sN
  have h3 := hw.ok.few
  have h4 := I.n
  refine (wheel_Set hw.at_ hw.ok (by omega) (by omega) (by simp; omega) k after (by omega) (by omega) a0 a1).mono ?_
  rintro e w' ⟨rfl, F', sv', sl', hwa, hok, hg⟩
  refine ⟨rfl, I.wheeled hFG hFp hFl hFh hg ⟨hwa, hok, by omega, by omega, fun t ht => ?_⟩ (by omega)⟩
  rcases List.mem_append.1 ht with h | h
  · exact hw.few t (mem_tdel h)
  · simp only [List.mem_singleton] at h
    subst h
    simp only
    omega

/-- What a call has done to a pool. -/
def Step (c : PC) (w : World) (bs : List Bk) (N : Int) (G : Nat → Prop) (w' : World) : Prop := ∃ bs' G', bs'.length = bs.length ∧ PInv c w' bs' (N + 1) G' ∧ Grew G w G' w'
def Stepped (c : PC) (w : World) (bs : List Bk) (N : Int) (G : Nat → Prop) (e : Ending) (w' : World) : Prop := (∃ v, e = .returned (.int .i64 v)) ∧ Step c w bs N G w'
theorem Grew.of_kept {F G : Nat → Prop} {w w' : World} (k : Kept F w w') (h : ∀ i, F i → G i) : Grew G w G w' := ⟨k.mono (fun i _ x => h i x), fun _ x => .inl x⟩
theorem Step.same (I : PInv c w bs N G) (k : Kept (fun _ => False) w w1) : Step c w bs N G w1 := ⟨bs, G, rfl, I.kept k (fun _ _ x => x) (by omega), Grew.of_kept k (fun _ x => x.elim)⟩
theorem Grew.lb {w w1 : World} (I : PInv c w bs N G) (k : Kept (fun k => k = c.lb) w w1) : Grew G w G w1 := Grew.of_kept k (fun i e => by rw [e]; exact I.gl)
theorem Step.after {G1 : Nat → Prop} {w2 : World} {bs1 : List Bk} (g : Grew G w G1 w1) (hl : bs1.length = bs.length) (s : Step c w1 bs1 N G1 w2) : Step c w bs N G w2 := by
  obtain ⟨bs', G', h1, h2, h3⟩ := s
  exact ⟨bs', G', h1.trans hl, h2, g.trans h3⟩

/-- A call that answers a number, and turns the row alone. -/
theorem RowDone.step (I : PInv c w bs N G) {r : Int × List Bk} {e : Ending} {w' : World} (h : RowDone c.lb c.cap w r e w') (hl : r.2.length = bs.length) (hb : ∀ b' ∈ r.2, BkOk c (N + 1) b' ∧ ∃ b ∈ bs, b'.hb = b.hb) : Stepped c w bs N G e w' :=
  ⟨⟨_, h.1⟩, r.2, G, hl, I.rowed h.2.1 h.2.2 hl (by omega) hb, Grew.lb I h.2.2⟩

set_option maxHeartbeats 1000000 in
theorem pool_settle (I : PInv c w bs N G) (hN : N ≤ 576460752303423488) {k : Nat} (hk : k < bs.length) :
    Calls Try.prog 48 #[.pointer (some ⟨c.pb, 0, none⟩), .int .i64 k] w fun e w' => e = .returned (.tuple #[]) ∧ Step c w bs N G w' := by
  obtain ⟨b, hb⟩ : ∃ b, bs[k]? = some b := ⟨_, List.getElem?_eq_getElem hk⟩
  obtain ⟨c0, c1, c2, c3, c4⟩ := I.r.cells hb
  have p0 := I.p.c0
  have p1 := I.p.c1
  have f1 := I.r.frozen (k * 5 + 1)
  have hbo := I.b b (List.mem_of_getElem? hb)
  have hlp := I.lb_pb
  have HI := Lib.hid I
  have HB := Lib.hid hb
  have hst := Step.same I (Kept.refl _ _)
  have HST := Lib.hid hst
  have hset := pool_set I hN hk 1 (by omega) (by omega)
  have HSET := Lib.hid hset
  have I1 : PInv c (w.setCell ⟨c.lb, k * 5 + 1, none⟩ (.int .i64 0)) (bs.set k { b with st := 0 }) N G := I.put hb (I.r.put1 hb 0) ((Kept.refl _ _).put _) (by omega) ⟨hbo.1, hbo.2.1, hbo.2.2⟩ rfl
  have HG1 := Lib.hid (Grew.lb (w1 := w.setCell ⟨c.lb, k * 5 + 1, none⟩ (.int .i64 0)) I ((Kept.refl _ _).put _))
  have hset1 := pool_set I1 hN (k := k) (by simpa using hk) 1 (by omega) (by omega)
  have HSET1 := Lib.hid hset1
  have hl1 : (bs.set k { b with st := 0 }).length = bs.length := by simp
  have HL1 := Lib.hid hl1
  clear I hb hst hset hset1 I1 hl1 hbo
  by_cases h3 : b.st = 3
  · have e3 : (b.st == 3) = true := by simpa using h3
    clear h3
    by_cases hl : 0 < b.load
    · have el : decide (0 < b.load) = true := by simpa using hl
      go_enter Try.func48, Try.ntmps48
      go_wp2
      refine bodyPost_ret (results_none rfl _ _ _) rfl ?_
      exact ⟨rfl, HST.out⟩
    · have el : decide (0 < b.load) = false := by simpa using hl
      go_enter Try.func48, Try.ntmps48
      go_wp2_with fail
      refine HSET1.out.mono ?_
      rintro e w' ⟨rfl, G', i1, g1⟩
      have HG := Lib.hid g1
      have HI1 := Lib.hid i1
      clear g1 i1
      go_wp2_with fail
      go_end0
      exact ⟨rfl, Step.after HG1.out HL1.out ⟨_, G', rfl, HI1.out, HG.out⟩⟩
  · have e3 : (b.st == 3) = false := by simpa using h3
    by_cases h0 : b.st = 0
    · have e0 : (b.st == 0) = true := by simpa using h0
      clear h0 h3
      go_enter Try.func48, Try.ntmps48
      go_wp2_with fail
      refine HSET.out.mono ?_
      rintro e w' ⟨rfl, G', i1, g1⟩
      have HG := Lib.hid g1
      have HI1 := Lib.hid i1
      clear g1 i1
      go_wp2_with fail
      go_end0
      exact ⟨rfl, bs, G', rfl, HI1.out, HG.out⟩
    · have e0 : (b.st == 0) = false := by simpa using h0
      clear h0 h3
      go_enter Try.func48, Try.ntmps48
      go_wp2
      go_end0
      exact ⟨rfl, HST.out⟩
end
end Go.Proofs.Ytchgieogdinglaa
