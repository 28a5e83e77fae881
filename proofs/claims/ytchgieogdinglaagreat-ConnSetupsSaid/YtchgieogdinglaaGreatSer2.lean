/- A region that draws its order, walked with two firsts: where an operation that makes a block and a call may come in either order, both are walked; what is calm, loads or makes blocks may move past either. -/
import Derived.Test.YtchgieogdinglaaGreatSerT
namespace Go.Proofs.YtchgieogdinglaaGreat.Ser
section
variable {P : Program} {I : World → Prop} {ops : Array Oper} {md : Region.Mode}

/-- Its run is a value, or nothing holds: two answers of one operation of kind at most 2 are one. -/
theorem value_of_kind {k : Nat} {o : Oper} (hk : kindOk k o = true) (h : k = 1 ∨ k = 2) (ρ : Operand → Value) (w : World) (n : Next) (w1 : World) (hr : (execOp ρ o).run P w = .ok n w1) : ∃ v, n = .value v := by
  rcases h with rfl | rfl
  · exact load_value hk ρ w n w1 hr
  · exact (new_grows (P := P) hk ρ).2 w n w1 hr

theorem sStep_and {k : Nat} {o : Oper} (hk : kindOk k o = true) (h3 : k = 0 ∨ k = 1 ∨ k = 2) {K1 K2 : Act → World → Prop} {a : Act} {w : World} (hI : I w) (h1 : sStep P I ops k o K1 a w) (h2 : sStep P I ops k o K2 a w) : sStep P I ops k o (fun a w => K1 a w ∧ K2 a w) a w := by
  unfold sStep at *
  split
  · rename_i hw
    rw [if_pos hw] at h1 h2
    split
    · rename_i h0
      rw [if_pos h0] at h1 h2
      obtain ⟨v, hv, hK⟩ := h1
      obtain ⟨v', hv', hK'⟩ := h2
      have : v' = v := CalmV.det w hI hv' hv
      subst this
      exact ⟨v', hv, hK, hK'⟩
    · rename_i h0
      rw [if_neg h0] at h1 h2
      have hkk : k = 1 ∨ k = 2 := by rcases h3 with h | h | h; exact absurd h h0; exact .inl h; exact .inr h
      cases hr : (execOp a.eval o).run P w with
      | halt x w1 => rw [hr] at h1; simp only [out] at h1
      | ok n w1 =>
        obtain ⟨v, rfl⟩ := value_of_kind (P := P) hk hkk _ _ _ _ hr
        rw [hr] at h1 h2
        simp only [out] at h1 h2 ⊢
        exact ⟨h1.1, h1.2, h2.2⟩
  · rename_i hw
    rw [if_neg hw] at h1 h2
    exact ⟨h1, h2⟩

/-- Of those that are left, each that waits for neither may move past both, and is no call. -/
def mayTwo (md : Region.Mode) (ops : Array Oper) (ks : List Nat) (listed : Array Bool) (i1 i2 : Nat) : Bool :=
  match ops[i1]?, ops[i2]? with
  | some o1, some o2 =>
    let d1 := depTo md ops i1 ops.size
    let d2 := depTo md ops i2 ops.size
    (List.range ops.size).all fun j => j == i1 || j == i2 || listed.getD j true || d1.getD j false || d2.getD j false || match ops[j]? with
      | some oj => (ks.getD j 3 == 0 || ks.getD j 3 == 1 || ks.getD j 3 == 2) && compat (ks.getD i1 3) (ks.getD j 3) && o1.apart ops oj && compat (ks.getD i2 3) (ks.getD j 3) && o2.apart ops oj
      | none => true
  | _, _ => false

theorem wpAnyS_two {ks : List Nat} {Q : Act → World → Prop} {i1 i2 : Nat} {o1 o2 : Oper} (h1 : ops[i1]? = some o1) (h2 : ops[i2]? = some o2) (hsel : Region.noSelect ops = true) (hks : kindsOk ops ks = true) :
    ∀ (fuel : Nat) (listed : Array Bool) (a : Act) (w : World), I w → Closed md ops listed →
      (∀ j oj, ops[j]? = some oj → j ≠ i1 → j ≠ i2 → listed.getD j true = false → (depTo md ops i1 ops.size).getD j false = false → (depTo md ops i2 ops.size).getD j false = false →
        (ks.getD j 3 = 0 ∨ ks.getD j 3 = 1 ∨ ks.getD j 3 = 2) ∧ compat (ks.getD i1 3) (ks.getD j 3) = true ∧ o1.apart ops oj = true ∧ compat (ks.getD i2 3) (ks.getD j 3) = true ∧ o2.apart ops oj = true) →
      i1 ∈ Region.ready md ops listed → i2 ∈ Region.ready md ops listed →
      sOp P I ops ks i1 (wpAnyS P I md ops ks Q fuel (listed.setIfInBounds i1 true)) a w → sOp P I ops ks i2 (wpAnyS P I md ops ks Q fuel (listed.setIfInBounds i2 true)) a w → wpAnyS P I md ops ks Q (fuel + 1) listed a w := by
  have kOk : ∀ j oj, ops[j]? = some oj → kindOk (ks.getD j 3) oj = true := by
    intro j oj hj
    have := List.all_eq_true.1 hks j (List.mem_range.2 (Array.getElem?_eq_some_iff.1 hj).1)
    simpa [hj] using this
  intro fuel
  induction fuel with
  | zero =>
    intro listed a w hI _ _ hr1 hr2 H1 H2
    refine ⟨fun h => (by rw [h] at hr1; cases hr1), fun j hj => ?_⟩
    by_cases hj1 : j = i1
    · subst hj1; exact H1
    · by_cases hj2 : j = i2
      · subst hj2; exact H2
      · exfalso
        unfold sOp at H1
        simp only [h1] at H1
        have hne : (Region.ready md ops (listed.setIfInBounds i1 true)) ≠ [] := fun h0 => by
          have := ready_mono hj hj1
          rw [h0] at this
          cases this
        have no : ∀ a w, ¬ wpAnyS P I md ops ks Q 0 (listed.setIfInBounds i1 true) a w := fun a w h => hne h.1
        unfold sStep at H1
        split at H1
        · split at H1
          · obtain ⟨v, _, h2⟩ := H1; exact no _ _ h2
          · obtain ⟨_, _, _, _, h2⟩ := out_some H1; exact no _ _ h2
        · exact no _ _ H1
  | succ fuel ih =>
    intro listed a w hI inv hfree hr1 hr2 H1 H2
    refine ⟨fun h => (by rw [h] at hr1; cases hr1), fun j hj => ?_⟩
    by_cases hj1 : j = i1
    · subst hj1; exact H1
    by_cases hj2 : j = i2
    · subst hj2; exact H2
    obtain ⟨hjun, oj, hoj, hall⟩ := mem_ready.1 hj
    have hnd : ∀ i, i ∈ Region.ready md ops listed → (depTo md ops i ops.size).getD j false = false := fun i hi => by
      cases hd : (depTo md ops i ops.size).getD j false with
      | false => rfl
      | true => exact absurd hj (dep_not inv (getD_both' (mem_ready.1 hi).1) _ j hd).2
    obtain ⟨hkj, hcp1, hap1, hcp2, hap2⟩ := hfree j oj hoj hj1 hj2 hjun (hnd i1 hr1) (hnd i2 hr2)
    have step : ∀ (i : Nat) (oi : Oper), ops[i]? = some oi → j ≠ i → compat (ks.getD i 3) (ks.getD j 3) = true → oi.apart ops oj = true → sOp P I ops ks i (wpAnyS P I md ops ks Q (fuel + 1) (listed.setIfInBounds i true)) a w →
        sStep P I ops (ks.getD j 3) oj (fun a2 w2 => sOp P I ops ks i (wpAnyS P I md ops ks Q fuel ((listed.setIfInBounds j true).setIfInBounds i true)) a2 w2) a w := by
      intro i oi hi hji hcp hap H
      have e1 : sStep P I ops (ks.getD i 3) oi (fun a1 w1 => sStep P I ops (ks.getD j 3) oj (fun a2 w2 => wpAnyS P I md ops ks Q fuel ((listed.setIfInBounds i true).setIfInBounds j true) a2 w2) a1 w1) a w := by
        unfold sOp at H
        simp only [hi] at H
        refine sStep_mono hI (fun a1 w1 hI1 h => ?_) H
        have h2 := h.2 j (ready_mono hj hji)
        unfold sOp at h2
        simp only [hoj] at h2
        exact h2
      have e3 := swap (kOk i oi hi) (kOk j oj hoj) hcp hap (fun cs b => Region.noSelect_spec hsel i oi cs b hi) (fun cs b => Region.noSelect_spec hsel j oj cs b hoj) hI e1
      refine sStep_mono hI (fun a2 w2 hI2 h => ?_) e3
      unfold sOp
      simp only [hi]
      rw [Array.setIfInBounds_comm _ _ hji]
      exact h
    have both := sStep_and (kOk j oj hoj) hkj hI (step i1 o1 h1 hj1 hcp1 hap1 H1) (step i2 o2 h2 hj2 hcp2 hap2 H2)
    unfold sOp
    simp only [hoj]
    refine sStep_mono hI (fun a2 w2 hI2 h => ?_) both
    refine ih (listed.setIfInBounds j true) a2 w2 hI2 (inv.set hj) (fun k ok hk hk1 hk2 hun hd1 hd2 => hfree k ok hk hk1 hk2 ?_ hd1 hd2) (ready_mono hr1 (Ne.symm hj1)) (ready_mono hr2 (Ne.symm hj2)) h.1 h.2
    by_cases hjk : j = k
    · subst hjk; exact hjun
    · rw [getD_set_ne true hjk] at hun; exact hun

/-- The walk in one order till two are first, then each of the two with its own order behind it. -/
def wpSer2 (P : Program) (I : World → Prop) (ops : Array Oper) (ks : List Nat) (Q : Act → World → Prop) (i1 i2 : Nat) (r1 r2 : List Nat) : List Nat → Act → World → Prop
  | [], a, w => wpSer P I ops ks Q (i1 :: r1) a w ∧ wpSer P I ops ks Q (i2 :: r2) a w
  | i :: rest, a, w => sOp P I ops ks i (wpSer2 P I ops ks Q i1 i2 r1 r2 rest) a w

def ser2From (md : Region.Mode) (ops : Array Oper) (ks : List Nat) (i1 i2 : Nat) (r1 r2 : List Nat) : List Nat → Array Bool → Bool
  | [], listed => (Region.ready md ops listed).contains i1 && (Region.ready md ops listed).contains i2 && mayTwo md ops ks listed i1 i2 && serFrom md ops ks r1 (listed.setIfInBounds i1 true) && serFrom md ops ks r2 (listed.setIfInBounds i2 true)
  | i :: rest, listed => (Region.ready md ops listed).contains i && mayFirst md ops ks listed i && ser2From md ops ks i1 i2 r1 r2 rest (listed.setIfInBounds i true)

theorem wpAnyS_ser2 {ks : List Nat} {Q : Act → World → Prop} {i1 i2 : Nat} {r1 r2 : List Nat} (hsel : Region.noSelect ops = true) (hks : kindsOk ops ks = true) (hl : r1.length = r2.length) : ∀ (perm : List Nat) (listed : Array Bool) (a : Act) (w : World), I w → Closed md ops listed →
    ser2From md ops ks i1 i2 r1 r2 perm listed = true → wpSer2 P I ops ks Q i1 i2 r1 r2 perm a w → wpAnyS P I md ops ks Q (perm.length + (r1.length + 1)) listed a w
  | [], listed, a, w, hI, inv, hB, h => by
    simp only [ser2From, Bool.and_eq_true] at hB
    obtain ⟨⟨⟨⟨hr1, hr2⟩, hf⟩, hB1⟩, hB2⟩ := hB
    have hr1' : i1 ∈ Region.ready md ops listed := by simpa using hr1
    have hr2' : i2 ∈ Region.ready md ops listed := by simpa using hr2
    unfold mayTwo at hf
    cases ho1 : ops[i1]? with
    | none => simp [ho1] at hf
    | some o1 =>
      cases ho2 : ops[i2]? with
      | none => simp [ho1, ho2] at hf
      | some o2 =>
        simp only [ho1, ho2] at hf
        simp only [List.length_nil, Nat.zero_add]
        refine wpAnyS_two ho1 ho2 hsel hks r1.length listed a w hI inv (fun j oj hj hj1 hj2 hun hd1 hd2 => ?_) hr1' hr2' (sOp_mono hI (fun a' w' hI' h' => wpAnyS_ser hsel hks r1 _ a' w' hI' (inv.set hr1') hB1 h') h.1) (sOp_mono hI (fun a' w' hI' h' => by
          rw [hl]
          exact wpAnyS_ser hsel hks r2 _ a' w' hI' (inv.set hr2') hB2 h') h.2)
        have e := List.all_eq_true.1 hf j (List.mem_range.2 (Array.getElem?_eq_some_iff.1 hj).1)
        simp only [Bool.or_eq_true, beq_iff_eq, hj1, hj2, hun, hd1, hd2, Bool.false_eq_true, false_or, hj, Bool.and_eq_true] at e
        obtain ⟨⟨⟨⟨e1, e2⟩, e3⟩, e4⟩, e5⟩ := e
        exact ⟨by rcases e1 with (e | e) | e; exact .inl e; exact .inr (.inl e); exact .inr (.inr e), e2, e3, e4, e5⟩
  | i :: rest, listed, a, w, hI, inv, hB, h => by
    simp only [ser2From, Bool.and_eq_true] at hB
    obtain ⟨⟨hr, hf⟩, hB'⟩ := hB
    have hr' : i ∈ Region.ready md ops listed := by simpa using hr
    unfold mayFirst at hf
    cases ho : ops[i]? with
    | none => simp [ho] at hf
    | some oi =>
      simp only [ho] at hf
      have e : (i :: rest).length + (r1.length + 1) = (rest.length + (r1.length + 1)) + 1 := by simp only [List.length_cons]; omega
      rw [e]
      refine wpAnyS_first ho hsel hks _ listed a w hI inv (fun j oj hj hji hun hd => ?_) hr' (sOp_mono hI (fun a' w' hI' h' => wpAnyS_ser2 hsel hks hl rest _ a' w' hI' (inv.set hr') hB' h') h)
      have h1 := List.all_eq_true.1 hf j (List.mem_range.2 (Array.getElem?_eq_some_iff.1 hj).1)
      simp only [Bool.or_eq_true, beq_iff_eq, hji, hun, hd, Bool.false_eq_true, false_or, hj, Bool.and_eq_true] at h1
      exact h1

def ser2B (ops : Array Oper) (ks : List Nat) (perm : List Nat) (i1 i2 : Nat) (r1 r2 : List Nat) : Bool :=
  Region.noSelect ops && kindsOk ops ks && perm.length + (r1.length + 1) == ops.size && r1.length == r2.length && ser2From .any ops ks i1 i2 r1 r2 perm (Array.replicate ops.size false)
theorem wp_region_ser2 {id : Nat} {Q : Exit → Act → World → Prop} {a : Act} {w : World} {l : List Oper} (I : World → Prop) (ks perm : List Nat) (i1 i2 : Nat) (r1 r2 : List Nat) (hm : P.follows .mixedOrders = true) (hB : ser2B l.toArray ks perm i1 i2 r1 r2 = true) (hI : I w.drew)
    (h : wpSer2 P I l.toArray ks (fun a w => Q .normal a w) i1 i2 r1 r2 perm a w.drew) : (Code.region id l.toArray true).wp P Q a w := by
  simp only [ser2B, Bool.and_eq_true, beq_iff_eq] at hB
  obtain ⟨⟨⟨⟨hsel, hks⟩, hlen⟩, hl⟩, hser⟩ := hB
  refine wp_region_any hm (wpAny_of_S (ks := ks) (I := I) _ _ _ _ hI ?_)
  have H := wpAnyS_ser2 (I := I) hsel hks hl perm _ a _ hI (closed_start (md := .any) (ops := l.toArray)) hser h
  rw [hlen] at H
  exact H
theorem wpSer2_eq {ks : List Nat} {Q : Act → World → Prop} {i1 i2 : Nat} {r1 r2 : List Nat} : ∀ perm : List Nat, wpSer2 P I ops ks Q i1 i2 r1 r2 perm = wpSer P I ops ks (fun a w => wpSer P I ops ks Q (i1 :: r1) a w ∧ wpSer P I ops ks Q (i2 :: r2) a w) perm
  | [] => rfl
  | i :: rest => by
    funext a w
    simp only [wpSer2, wpSer, wpSer2_eq rest]
/-- For the walk. -/
theorem wp_region_two {id : Nat} {Q : Exit → Act → World → Prop} {a : Act} {w : World} {l : List Oper} (I : World → Prop) (ks perm : List Nat) (i1 i2 : Nat) (r1 r2 : List Nat) (hm : P.follows .mixedOrders = true) (hB : ser2B l.toArray ks perm i1 i2 r1 r2 = true) (hI : I w.drew)
    (h : wpSer P I l.toArray ks (fun b v => wpSer P I l.toArray ks (fun a w => Q .normal a w) (i1 :: r1) b v ∧ wpSer P I l.toArray ks (fun a w => Q .normal a w) (i2 :: r2) b v) perm a w.drew) : (Code.region id l.toArray true).wp P Q a w :=
  wp_region_ser2 I ks perm i1 i2 r1 r2 hm hB hI (by rw [wpSer2_eq]; exact h)
end
end Go.Proofs.YtchgieogdinglaaGreat.Ser
