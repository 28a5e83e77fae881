/- The reference's pool: its invariant; Is, Take, Limit, Opened. -/
import Derived.Test.YtchgieogdinglaaRefD
set_option linter.unusedSimpArgs false
set_option linter.unusedVariables false
namespace Go.Proofs.Ytchgieogdinglaa
open Go.RowKit
open Ser

structure RC where
  pb : Nat
  lb : Nat
  cap : Nat
  wb : Nat
  retry : Int
  most : Int

def RkOk (c : RC) (K : Int) (b : Bk) : Prop := 0 ≤ b.load ∧ b.load ≤ K ∧ 1 ≤ b.wait ∧ b.wait ≤ c.most

structure RInv (c : RC) (w : World) (bs : List Bk) (K : Int) (G : Nat → Prop) : Prop where
  p : PB 62 w c.pb c.lb bs.length c.cap c.wb c.retry c.most
  r : BR 64 w c.lb c.cap bs
  n : bs.length ≤ 1000
  b : ∀ b ∈ bs, RkOk c K b
  h : ∀ b ∈ bs, RM w b.hb K
  wh : ∃ N lv L, RW w c.wb bs.length K N lv L ∧ ∀ q, lv.ownBlock = some q → G q
  gp : G c.pb
  gl : G c.lb
  gw : G c.wb
  gh : ∀ b ∈ bs, G b.hb
  lt : ∀ k, G k → k < w.heap.size
  c1 : 1 ≤ c.retry ∧ c.retry ≤ c.most ∧ c.most ≤ 1073741824
  k0 : 0 ≤ K

section
variable {c : RC} {w w1 : World} {bs bs' : List Bk} {K K' : Int} {G : Nat → Prop}
theorem RM.ne_ {w : World} {b q : Nat} {K : Int} {t : TypeId} {cs : Array Value} (h : RM w b K) (hb : Blk w q t cs) (ht : 85 ≠ t) : b ≠ q := by
  obtain ⟨fl, rs, hd, rn, ho, down, h1, _⟩ := h
  exact Blk.ne_ h1 hb ht
theorem RM.ne_own {w : World} {b : Nat} {K : Int} {E : TypeId} {m n : Nat} {v : Value} {xs : List Value} (h : RM w b K) (ho : w.ownsRow 0 E m v n xs) (ht : E ≠ 85) : v.ownBlock ≠ some b := by
  obtain ⟨fl, rs, hd, rn, ho', down, h1, _⟩ := h
  rcases ho.2 with ⟨rfl, _⟩ | ⟨g, cap, cur, rfl, _, hg, _⟩
  · simp [Value.ownBlock]
  · intro e
    simp [Value.ownBlock] at e
    subst e
    exact Blk.ne_ (t := E) hg h1 ht rfl
theorem RInv.lb_hb (I : RInv c w bs K G) : ∀ b ∈ bs, b.hb ≠ c.lb := fun b hb e => (I.h b hb).ne_own I.r (by decide) (by rw [e]; rfl)
theorem RInv.lb_pb (I : RInv c w bs K G) : c.lb ≠ c.pb := I.r.ne_blk I.p (by decide)
theorem RInv.pb_hb (I : RInv c w bs K G) : ∀ b ∈ bs, b.hb ≠ c.pb := fun b hb => (I.h b hb).ne_ I.p (by decide)

/-- The row alone has turned. -/
theorem RInv.rowed (I : RInv c w bs K G) (hr : BR 64 w1 c.lb c.cap bs') (k : Kept (fun k => k = c.lb) w w1) (hl : bs'.length = bs.length) (hK : K ≤ K') (hb : ∀ b' ∈ bs', RkOk c K' b' ∧ ∃ b ∈ bs, b'.hb = b.hb) : RInv c w1 bs' K' G := by
  obtain ⟨N, lv, L, hw, hg⟩ := I.wh
  have hwl : c.lb ≠ c.wb := I.r.ne_blk hw.b (by decide)
  have hll : ∀ q, lv.ownBlock = some q → q ≠ c.lb := fun q hq e => own_ne I.r hw.r (by decide) c.lb rfl (by rw [hq, e])
  refine ⟨?_, hr, by rw [hl]; exact I.n, fun b hb' => (hb b hb').1, fun b' hb' => ?_, ⟨N, lv, L, ?_, hg⟩, I.gp, I.gl, I.gw, fun b' hb' => ?_, fun i hi => Nat.lt_of_lt_of_le (I.lt i hi) k.size, I.c1, by have := I.k0; omega⟩
  · rw [hl]; exact I.p.kept k (fun e => I.lb_pb e.symm)
  · obtain ⟨_, b, hb1, e⟩ := hb b' hb'
    rw [e]
    exact ((I.h b hb1).more hK).kept k (I.lb_hb b hb1)
  · rw [hl]; exact (hw.kept k (fun e => hwl e.symm) hll).more hK
  · obtain ⟨_, b, hb1, e⟩ := hb b' hb'
    rw [e]; exact I.gh b hb1
theorem RkOk.more {b : Bk} (h : RkOk c K b) (hK : K ≤ K') : RkOk c K' b := ⟨h.1, by have := h.2.1; omega, h.2.2⟩
theorem RInv.put (I : RInv c w bs K G) {k : Nat} {b x : Bk} (hb : bs[k]? = some b) (hr : BR 64 w1 c.lb c.cap (bs.set k x)) (kk : Kept (fun k => k = c.lb) w w1) (hK : K ≤ K') (hx : RkOk c K' x) (hh : x.hb = b.hb) : RInv c w1 (bs.set k x) K' G :=
  I.rowed hr kk (by simp) hK fun b' hb' => by
    rcases List.mem_or_eq_of_mem_set hb' with h | rfl
    · exact ⟨(I.b b' h).more hK, b', h, rfl⟩
    · exact ⟨hx, b, List.mem_of_getElem? hb, hh⟩
theorem RInv.kept {H : Nat → Prop} (I : RInv c w bs K G) (k : Kept H w w1) (hH : ∀ i, G i → ¬ H i) (hK : K ≤ K') : RInv c w1 bs K' G := by
  obtain ⟨N, lv, L, hw, hg⟩ := I.wh
  exact ⟨I.p.kept k (hH _ I.gp), I.r.kept k (hH _ I.gl), I.n, fun b hb => (I.b b hb).more hK, fun b hb => ((I.h b hb).more hK).kept k (hH _ (I.gh b hb)),
    ⟨N, lv, L, (hw.kept k (hH _ I.gw) (fun q hq => hH q (hg q hq))).more hK, hg⟩, I.gp, I.gl, I.gw, I.gh, fun i hi => Nat.lt_of_lt_of_le (I.lt i hi) k.size, I.c1, by have := I.k0; omega⟩
theorem RInv.healed (I : RInv c w bs K G) {b0 : Bk} (hb0 : b0 ∈ bs) (k : Kept (fun k => k = b0.hb) w w1) (hh : RM w1 b0.hb K') (hK : K ≤ K') : RInv c w1 bs K' G := by
  obtain ⟨N, lv, L, hw, hg⟩ := I.wh
  have hwb : b0.hb ≠ c.wb := (I.h b0 hb0).ne_ hw.b (by decide)
  have hwl := (I.h b0 hb0).ne_own hw.r (by decide)
  refine ⟨I.p.kept k (fun e => I.pb_hb b0 hb0 e.symm), I.r.kept k (fun e => I.lb_hb b0 hb0 e.symm), I.n, fun b hb => (I.b b hb).more hK, fun b hb1 => ?_,
    ⟨N, lv, L, (hw.kept k (fun e => hwb e.symm) (fun q hq e => hwl (by rw [hq, e]))).more hK, hg⟩, I.gp, I.gl, I.gw, I.gh, fun i hi => Nat.lt_of_lt_of_le (I.lt i hi) k.size, I.c1, by have := I.k0; omega⟩
  by_cases e : b.hb = b0.hb
  · rw [e]; exact hh
  · exact ((I.h b hb1).more hK).kept k e
theorem RInv.wheeled (I : RInv c w bs K G) {N : Int} {lv : Value} {L : List Rt} (hw : RW w c.wb bs.length K N lv L) (hg : ∀ q, lv.ownBlock = some q → G q) {N' : Int} {lv' : Value} {L' : List Rt} (hw' : RW w1 c.wb bs.length K' N' lv' L')
    (k : Kept (fun k => k = c.wb ∨ lv.ownBlock = some k) w w1) (hl : ∀ q, lv'.ownBlock = some q → lv.ownBlock = some q ∨ w.heap.size ≤ q) (hK : K ≤ K') : ∃ G', RInv c w1 bs K' G' ∧ Grew G w G' w1 := by
  have e1 : ¬ (c.pb = c.wb ∨ lv.ownBlock = some c.pb) := fun e => by
    rcases e with e | e
    · exact Blk.ne_ I.p hw.b (by decide) e
    · exact hw.r.ne_blk I.p (by decide) e
  have e2 : ¬ (c.lb = c.wb ∨ lv.ownBlock = some c.lb) := fun e => by
    rcases e with e | e
    · exact I.r.ne_blk hw.b (by decide) e
    · exact own_ne I.r hw.r (by decide) c.lb rfl e
  have e3 : ∀ b ∈ bs, ¬ (b.hb = c.wb ∨ lv.ownBlock = some b.hb) := fun b hb e => by
    rcases e with e | e
    · exact (I.h b hb).ne_ hw.b (by decide) e
    · exact (I.h b hb).ne_own hw.r (by decide) e
  refine ⟨fun q => G q ∨ lv'.ownBlock = some q, ⟨I.p.kept k e1, I.r.kept k e2, I.n, fun b hb => (I.b b hb).more hK, fun b hb => ((I.h b hb).more hK).kept k (e3 b hb), ⟨N', lv', L', hw', fun q hq => .inr hq⟩, .inl I.gp, .inl I.gl, .inl I.gw, fun b hb => .inl (I.gh b hb), fun q hq => ?_, I.c1, by have := I.k0; omega⟩, ⟨k.mono (fun i _ e => ?_), fun q hq => ?_⟩⟩
  · rcases hq with h | h
    · exact Nat.lt_of_lt_of_le (I.lt q h) k.size
    · exact hw'.r.lt q h
  · rcases e with e | e
    · rw [e]; exact I.gw
    · exact hg i e
  · rcases hq with h | h
    · exact .inl h
    · rcases hl q h with h1 | h1
      · exact .inl (hg q h1)
      · exact .inr ⟨h1, hw'.r.lt q h⟩

def RStep (c : RC) (w : World) (bs : List Bk) (K : Int) (G : Nat → Prop) (w' : World) : Prop := ∃ bs' G', bs'.length = bs.length ∧ RInv c w' bs' (K + 1) G' ∧ Grew G w G' w'
def RStepped (c : RC) (w : World) (bs : List Bk) (K : Int) (G : Nat → Prop) (e : Ending) (w' : World) : Prop := (∃ v, e = .returned (.int .i64 v)) ∧ RStep c w bs K G w'
theorem RStepped.same (I : RInv c w bs K G) (k : Kept (fun _ => False) w w1) (x : Int) : RStepped c w bs K G (.returned (.int .i64 x)) w1 := ⟨⟨x, rfl⟩, bs, G, rfl, I.kept k (fun _ _ x => x) (by omega), Grew.of_kept k (fun _ x => x.elim)⟩
theorem RStepped.row (I : RInv c w bs K G) (I' : RInv c w1 bs' (K + 1) G) (hl : bs'.length = bs.length) (k : Kept (fun k => k = c.lb) w w1) (x : Int) : RStepped c w bs K G (.returned (.int .i64 x)) w1 :=
  ⟨⟨x, rfl⟩, bs', G, hl, I', Grew.of_kept k (fun i e => by rw [e]; exact I.gl)⟩
theorem RStepped.after {G1 : Nat → Prop} {w2 : World} {bs1 : List Bk} (g : Grew G w G1 w1) (hl : bs1.length = bs.length) (s : RStep c w1 bs1 K G1 w2) (x : Int) : RStepped c w bs K G (.returned (.int .i64 x)) w2 := by
  obtain ⟨bs', G', h1, h2, h3⟩ := s
  exact ⟨⟨x, rfl⟩, bs', G', h1.trans hl, h2, g.trans h3⟩

set_option maxHeartbeats 1000000 in
theorem ref_Is (I : RInv c w bs K G) (a : Int) : Calls Try.prog 22 #[.pointer (some ⟨c.pb, 0, none⟩), .int .i64 a] w fun e w' => e = .returned (.bool (pick bs a).isSome) ∧ w = w' := by
  have c0 := I.p.c0
  have hn := I.n
  cases hp : pick bs a with
  | some p =>
    obtain ⟨k, b⟩ := p
    obtain ⟨_, rfl, hk⟩ := pick_some hp
    clear hp I
    have hb1 : decide (0 ≤ (k : Int)) = true := by simp
    have hb2 : decide ((k : Int) < (bs.length : Nat)) = true := by simp; omega
    go_enter Try.func22, Try.ntmps22
    go_wp2
    go_ret
    exact ⟨rfl, rfl⟩
  | none =>
    have hx := pick_none hp
    clear hp I
    by_cases ha : a < 0
    · have hb1 : decide (0 ≤ a) = false := by simp; omega
      go_enter Try.func22, Try.ntmps22
      go_wp2
      go_ret
      exact ⟨rfl, rfl⟩
    · have hb1 : decide (0 ≤ a) = true := by simp; omega
      have hb2 : decide (a < (bs.length : Nat)) = false := by simp; omega
      go_enter Try.func22, Try.ntmps22
      go_wp2
      go_ret
      exact ⟨rfl, rfl⟩
end
end Go.Proofs.Ytchgieogdinglaa
