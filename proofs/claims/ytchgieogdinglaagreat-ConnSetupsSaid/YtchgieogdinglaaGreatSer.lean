/- A region that draws its order, walked in one order of the prover's choice: operations that ask nothing of the world go anywhere, loads go ahead of new blocks, and all else must be ordered by the region's own edges. -/
import Derived.Orders
import Derived.Tactics
import Derived.KernelRfl
namespace Go.Proofs.YtchgieogdinglaaGreat.Ser

/-- No way out but the normal one. -/
def NoQ : Exit → Act → World → Prop := fun _ _ _ => False

/-- Every block that was there is there, unturned. -/
def Ext (w w' : World) : Prop := ∀ b, b < w.heap.size → w'.heap[b]? = w.heap[b]?

section
variable {P : Program}

/-- It hands back the world that it got, and does so with the same answer behind new blocks. -/
def Stable {α : Type} (P : Program) (s : Sem α) : Prop := ∀ w r w1, s.run P w = .ok r w1 → w1 = w ∧ ∀ w', Ext w w' → s.run P w' = .ok r w'

theorem Stable.pure {α : Type} (a : α) : Stable P (pure a : Sem α) := by
  intro w r w1 h
  simp only [Sem.run_pure, Result.ok.injEq] at h
  exact ⟨h.2.symm, fun w' _ => by simp [h.1]⟩
theorem Stable.bind {α β : Type} {s : Sem α} {f : α → Sem β} (hs : Stable P s) (hf : ∀ a, Stable P (f a)) : Stable P (s >>= f) := by
  intro w r w1 h
  rw [Sem.run_bind] at h
  cases hr : s.run P w with
  | halt x w2 => rw [hr] at h; simp at h
  | ok x w2 =>
    rw [hr] at h
    obtain ⟨e1, h1⟩ := hs w x w2 hr
    subst e1
    obtain ⟨e2, h2⟩ := hf x w2 r w1 (by simpa using h)
    exact ⟨e2, fun w' hw' => by rw [Sem.run_bind, h1 w' hw']; simpa using h2 w' hw'⟩
theorem Stable.program {α : Type} {f : Program → Sem α} (hf : ∀ a, Stable P (f a)) : Stable P (program >>= f) := by
  intro w r w1 h
  simp only [Sem.run_bind, run_program, Result.andThen_ok] at h ⊢
  exact hf P w r w1 h
theorem Stable.stuck {α : Type} (why : String) : Stable P (stuck why : Sem α) := by
  intro w r w1 h
  simp at h
theorem ext_cell {w w' : World} (h : Ext w w') {a : Addr} {v : Value} (hc : w.cell? a = some v) : w'.cell? a = some v := by
  have := World.block_lt_of_cell? w a hc
  unfold World.cell? at *
  rw [h _ this]
  exact hc
theorem viewLoad_same {w w' : World} (a : Addr) (u : TypeId) (k : Addr) (t : Bool) (h : w'.heap[a.block]? = w.heap[a.block]?) : w'.viewLoad P a u k t = w.viewLoad P a u k t := by
  unfold World.viewLoad World.seen
  rw [h]
theorem seen_none {w : World} (at_ : Addr) (u : TypeId) (k : Addr) (t : Bool) (hn : w.heap[at_.block]? = none) : ∃ e, w.seen P at_ u k t = .error e := by
  unfold World.seen
  rw [hn]
  by_cases h1 : (k.spot.isSome || at_.spot.isSome) = true
  · exact ⟨_, by simp only [h1, if_true]; rfl⟩
  · rw [if_neg h1]
    cases plainCell P P.depth u k.off with
    | none => exact ⟨_, rfl⟩
    | some like =>
      cases hl : like.bytes? with
      | none => exact ⟨_, by simp only [hl]; rfl⟩
      | some bs =>
        cases hb : byteOfCell P P.depth u k.off with
        | none => exact ⟨_, by simp only [hl]; rfl⟩
        | some n => exact ⟨_, by simp only [hl]; rfl⟩
theorem Stable.load (a : Addr) (m : Mode) : Stable P (load a m) := by
  intro w r w1 h
  rw [run_load] at h
  cases hc : w.cell? a with
  | some v =>
    rw [hc] at h
    simp only [Result.ok.injEq] at h
    exact ⟨h.2.symm, fun w' hw' => by rw [run_load, ext_cell hw' hc]; simp [h.1]⟩
  | none =>
    rw [hc] at h
    simp only at h
    cases hf : w.farLoad P a (m == .atomic) with
    | error e => rw [hf] at h; simp at h
    | ok x =>
      rw [hf] at h
      simp only [Result.ok.injEq] at h
      refine ⟨h.2.symm, fun w' hw' => ?_⟩
      unfold World.farLoad at hf
      cases hb : w.heap[a.block]? with
      | none => rw [hb] at hf; simp at hf
      | some o =>
        have hlt : a.block < w.heap.size := (Array.getElem?_eq_some_iff.1 hb).1
        have hb' : w'.heap[a.block]? = some o := (hw' _ hlt).trans hb
        cases o with
        | view at_ u =>
          rw [hb] at hf
          simp only at hf
          have hcn : w'.cell? a = none := by simp [World.cell?, hb']
          rw [run_load, hcn]
          simp only [World.farLoad, hb']
          have hsee : w'.viewLoad P at_ u a (m == .atomic) = w.viewLoad P at_ u a (m == .atomic) := by
            by_cases hl : at_.block < w.heap.size
            · exact viewLoad_same _ _ _ _ (hw' _ hl)
            · exfalso
              have hn : w.heap[at_.block]? = none := Array.getElem?_eq_none (by omega)
              obtain ⟨e, he⟩ := seen_none (P := P) at_ u a (m == .atomic) hn
              rw [show w.viewLoad P at_ u a (m == .atomic) = .error e by unfold World.viewLoad; rw [he]; rfl] at hf
              cases hf
          rw [hsee]
          cases hv : w.viewLoad P at_ u a (m == .atomic) with
          | error e => rw [hv] at hf; simp at hf
          | ok y => rw [hv] at hf; simp at hf; subst hf; simp [h.1]
        | _ => rw [hb] at hf; simp at hf
theorem Stable.typeInfo (t : TypeId) : Stable P (typeInfo t) := by
  unfold Go.typeInfo
  refine Stable.program fun p => ?_
  split
  · exact Stable.pure _
  · exact Stable.stuck _
theorem Stable.underlying (t : TypeId) : Stable P (underlying t) := by
  unfold Go.underlying
  refine Stable.program fun p => ?_
  split
  · exact Stable.pure _
  · exact Stable.stuck _
theorem Stable.sizeOf (t : TypeId) : Stable P (sizeOf t) := by
  unfold Go.sizeOf
  exact Stable.bind (Stable.typeInfo t) fun _ => Stable.pure _
theorem Stable.isAgg (t : TypeId) : Stable P (isAgg t) := by
  unfold Go.isAgg
  refine Stable.bind (Stable.underlying t) fun d => ?_
  split <;> exact Stable.pure _
theorem Stable.loadCellsFrom (a : Addr) (n : Nat) : ∀ (i : Nat) (acc : Array Value), Stable P (loadCellsFrom a i n acc) := by
  induction n with
  | zero => intro i acc; exact Stable.pure _
  | succ n ih => intro i acc; exact Stable.bind (Stable.load _ _) fun v => ih _ _
theorem Stable.loadAt (t : TypeId) (v : Value) : Stable P (Instr.loadAt t v) := by
  unfold Instr.loadAt
  refine Stable.bind ?_ fun a => ?_
  · unfold Instr.sureAddr
    split
    · exact Stable.pure _
    · exact Stable.stuck _
  · unfold loadVar
    refine Stable.bind (Stable.isAgg t) fun b => ?_
    split
    · exact Stable.bind (Stable.sizeOf t) fun n => Stable.bind (Stable.loadCellsFrom _ _ _ _) fun _ => Stable.pure _
    · exact Stable.load _ _

/-- It makes new blocks at most. -/
def Grows {α : Type} (P : Program) (s : Sem α) : Prop := ∀ w r w1, s.run P w = .ok r w1 → Ext w w1
theorem Ext.refl (w : World) : Ext w w := fun _ _ => rfl
theorem Stable.grows {α : Type} {s : Sem α} (h : Stable P s) : Grows P s := fun w r w1 hr => by rw [(h w r w1 hr).1]; exact Ext.refl _
theorem Grows.bind {α β : Type} {s : Sem α} {f : α → Sem β} (hs : Grows P s) (hsz : ∀ w r w1, s.run P w = .ok r w1 → w.heap.size ≤ w1.heap.size) (hf : ∀ a, Grows P (f a)) : Grows P (s >>= f) := by
  intro w r w1 h
  rw [Sem.run_bind] at h
  cases hr : s.run P w with
  | halt x w2 => rw [hr] at h; simp at h
  | ok x w2 =>
    rw [hr] at h
    have h1 := hs w x w2 hr
    have h2 := hf x w2 r w1 (by simpa using h)
    have h3 := hsz w x w2 hr
    intro b hb
    rw [h2 b (by omega), h1 b hb]
theorem Stable.thenGrows {α β : Type} {s : Sem α} {f : α → Sem β} (hs : Stable P s) (hf : ∀ a, Grows P (f a)) : Grows P (s >>= f) :=
  Grows.bind hs.grows (fun w r w1 h => by rw [(hs w r w1 h).1]; exact Nat.le_refl _) hf
theorem Grows.newObj {β : Type} (o : Obj) {f : Nat → Sem β} (hf : ∀ a, Stable P (f a)) : Grows P (newObj o >>= f) := by
  intro w r w1 h
  simp only [Sem.run_bind, run_newObj, Result.andThen_ok] at h
  rw [(hf _ _ _ _ h).1]
  intro b hb
  simp only [Array.getElem?_push]
  rw [if_neg (by omega)]
theorem Grows.newRow {β : Type} (e : TypeId) (cs : Array Value) {f : Addr → Sem β} (hf : ∀ a, Stable P (f a)) : Grows P (newRow e cs >>= f) := by
  unfold Go.newRow
  simp only [bind_assoc, pure_bind]
  exact Grows.newObj _ fun a => hf _
theorem Stable.zeroValue (t : TypeId) : Stable P (zeroValue t) := by
  unfold Go.zeroValue
  refine Stable.bind (Stable.typeInfo t) fun i => ?_
  split
  · exact Stable.pure _
  · intro w r w1 h; simp at h
theorem Stable.unsupported {α : Type} (u : Unsupported) : Stable P (unsupported u : Sem α) := by
  intro w r w1 h
  simp at h


theorem Grows.alloc (t : TypeId) : Grows P (Instr.alloc t true (.tuple #[])) := by
  unfold Instr.alloc
  refine Stable.thenGrows (Stable.zeroValue t) fun z => ?_
  unfold newVar
  exact Grows.newRow _ _ fun _ => Stable.pure _
theorem Grows.box (t : TypeId) (v : Value) : Grows P (Instr.box t v) := by
  unfold Instr.box newVar
  exact Grows.newRow _ _ fun _ => Stable.pure _
theorem Grows.buildSlice (t : TypeId) (n : Nat) (ps : Array (Nat × Value)) : Grows P (Instr.buildSlice t n ps) := by
  unfold Instr.buildSlice
  refine Stable.thenGrows (Stable.underlying t) fun d => ?_
  split
  · refine Stable.thenGrows (Stable.sizeOf _) fun k => ?_
    dsimp only
    split
    · intro w r w1 h
      simp at h
    · split
      · rw [pure_bind]
        split
        · exact Grows.newRow _ _ fun _ => Stable.pure _
        · exact (Stable.stuck _).grows
      · refine Stable.thenGrows (Stable.zeroValue _) fun z => ?_
        rw [pure_bind]
        split
        · exact Grows.newRow _ _ fun _ => Stable.pure _
        · exact (Stable.stuck _).grows
  · exact (Stable.stuck _).grows

/-! ### What an operation comes to, whatever the frame -/

def out (P : Program) (r : Result Next) (G : List Deferred → Value → World → Prop) : Prop :=
  match r with
  | .ok (.value v) w => G [] v w
  | .ok .skip w => G [] undef w
  | .ok (.defer d) w => G [d] undef w
  | .ok (.enter f args) w => Calls P f args w fun | .returned v, w' => G [] v w' | _, _ => False
  | .ok (.row row args) w => Rows P row args w fun v w' => G [] v w'
  | _ => False

def upd (a : Act) (d : Option Tmp) (ds : List Deferred) (v : Value) : Act := { tmps := (a.put d v).tmps, defers := ds ++ a.defers }

theorem put_defers' (a : Act) (d : Option Tmp) (v : Value) : (a.put d v).defers = a.defers := by cases d <;> rfl
theorem upd_nil (a : Act) (d : Option Tmp) (v : Value) : upd a d [] v = a.put d v := by
  unfold upd
  rw [List.nil_append, ← put_defers' a d v]

theorem not_lets : ¬ LetsOut NoQ := fun ⟨_, _, h⟩ => h

theorem wp_out {o : Oper} {a : Act} {w : World} {K : Act → World → Prop} :
    o.wp P a w K NoQ ↔ out P ((execOp a.eval o).run P w) (fun ds v w1 => K (upd a o.dst ds v) w1) := by
  unfold Oper.wp
  generalize (execOp a.eval o).run P w = r
  cases r with
  | ok n w1 =>
    cases n <;> simp only [Oper.upon, out, upd_nil] <;> try (exact Iff.rfl)
    case enter f args =>
      constructor
      · intro h
        refine h.mono fun e w'' he => ?_
        cases e with
        | returned v => exact he
        | panicked c => exact he
        | outgrown => exact absurd he not_lets
      · intro h
        refine h.mono fun e w'' he => ?_
        cases e with
        | returned v => exact he
        | panicked c => exact he.elim
        | outgrown => exact he.elim
    case defer d =>
      have : ({ a with defers := d :: a.defers } : Act).put o.dst undef = upd a o.dst [d] undef := by
        unfold upd
        cases o.dst <;> rfl
      rw [this]
  | halt h w1 => cases h <;> simp only [Oper.upon, out] <;> exact Iff.rfl

theorem out_mono {r : Result Next} {G G' : List Deferred → Value → World → Prop} (h : ∀ ds v w, G ds v w → G' ds v w) (hr : out P r G) : out P r G' := by
  cases r with
  | ok n w1 =>
    cases n <;> simp only [out] at hr ⊢ <;> first
      | exact h _ _ _ hr
      | exact Calls.mono hr (fun e w'' he => by cases e <;> first | exact h _ _ _ he | exact he)
      | exact Rows.mono hr (fun _ _ he => h _ _ _ he)
  | halt x w1 => simp only [out] at hr

theorem out_some {r : Result Next} {G : List Deferred → Value → World → Prop} (hr : out P r G) : ∃ ds v w, G ds v w := by
  cases r with
  | ok n w1 =>
    cases n <;> simp only [out] at hr <;> first
      | exact ⟨_, _, _, hr⟩
      | (obtain ⟨e, w', fr, hR, _⟩ := hr []; cases e <;> first | exact ⟨_, _, _, hR⟩ | exact hR.elim)
      | (obtain ⟨v, w', hR, _⟩ := hr default []; exact ⟨_, _, _, hR⟩)
  | halt x w1 => simp only [out] at hr

theorem eval_upd {a : Act} {d : Option Tmp} {ds : List Deferred} {v : Value} : (upd a d ds v).eval = (a.put d v).eval := by
  funext x
  cases x <;> rfl

section
variable {ops : Array Oper}
theorem exec_upd (o : Oper) (hs : ∀ cs b, o.op ≠ .select cs b) (a : Act) (dst : Option Tmp) (ds : List Deferred) (v : Value) (h : ∀ d, dst = some d → d ∉ o.looksAt ops) :
    execOp (upd a dst ds v).eval o = execOp a.eval o := by rw [eval_upd]; exact execOp_put (ops := ops) o hs a dst v h
theorem wanted_upd (o : Oper) (a : Act) (dst : Option Tmp) (ds : List Deferred) (v : Value) (h : ∀ d, dst = some d → d ∉ o.looksAt ops) :
    Region.wanted o (yielded ops (upd a dst ds v).tmps) = Region.wanted o (yielded ops a.tmps) := wanted_put o a dst v h
theorem upd_put_comm (a : Act) {x y : Option Tmp} (ds : List Deferred) (v u : Value) (h : ∀ d, x = some d → y ≠ some d) : (upd a y ds u).put x v = upd (a.put x v) y ds u := by
  have h1 : ((upd a y ds u).put x v).tmps = (upd (a.put x v) y ds u).tmps := by
    have h2 := congrArg Act.tmps (Act.put_comm a v u h)
    unfold upd
    simp only
    rw [h2]
    cases x <;> cases y <;> rfl
  have h3 : ((upd a y ds u).put x v).defers = (upd (a.put x v) y ds u).defers := by
    rw [put_defers']
    unfold upd
    simp only [put_defers']
  cases hA : (upd a y ds u).put x v
  cases hB : upd (a.put x v) y ds u
  rw [hA, hB] at h1 h3
  simp_all

/-- The same answer in every world of the class, and the world as it was. -/
def CalmV (P : Program) (I : World → Prop) (o : Oper) (a : Act) (v : Value) : Prop := ∀ w, I w → (execOp a.eval o).run P w = .ok (.value v) w
theorem CalmV.out {I : World → Prop} {o : Oper} {a : Act} {v : Value} (h : CalmV P I o a v) (w : World) (hI : I w) (G : List Deferred → Value → World → Prop) (hG : G [] v w) : out P ((execOp a.eval o).run P w) G := by
  rw [h w hI]; exact hG
theorem CalmV.det {I : World → Prop} {o : Oper} {a : Act} {v v' : Value} (w : World) (hI : I w) (h : CalmV P I o a v) (h' : CalmV P I o a v') : v = v' := by
  have := (h w hI).symm.trans (h' w hI)
  simpa using this
theorem CalmV.same {I : World → Prop} {o : Oper} {a b : Act} {v : Value} (h : CalmV P I o a v) (he : execOp b.eval o = execOp a.eval o) : CalmV P I o b v := by
  unfold CalmV at *
  rw [he]
  exact h

/-- One operation of kind k (0: calm; 1: a load; 2: new blocks; else: anything). I: what holds of the world all the way. -/
def sStep (P : Program) (I : World → Prop) (ops : Array Oper) (k : Nat) (o : Oper) (K : Act → World → Prop) (a : Act) (w : World) : Prop :=
  if Region.wanted o (yielded ops a.tmps) = true then
    (if k = 0 then ∃ v, CalmV P I o a v ∧ K (a.put o.dst v) w else out P ((execOp a.eval o).run P w) (fun ds v w1 => I w1 ∧ K (upd a o.dst ds v) w1))
  else K (a.put o.dst undef) w

variable {I : World → Prop}
theorem sStep_out {k : Nat} {o : Oper} {K : Act → World → Prop} {a : Act} {w : World} (hw : Region.wanted o (yielded ops a.tmps) = true) (hk : ¬ k = 0)
    (h : out P ((execOp a.eval o).run P w) (fun ds v w1 => I w1 ∧ K (upd a o.dst ds v) w1)) : sStep P I ops k o K a w := by
  unfold sStep
  rw [if_pos hw, if_neg hk]
  exact h

theorem sStep_mono {k : Nat} {o : Oper} {K K' : Act → World → Prop} {a : Act} {w : World} (hI : I w) (h : ∀ a w, I w → K a w → K' a w) (hs : sStep P I ops k o K a w) : sStep P I ops k o K' a w := by
  unfold sStep at *
  split
  · rename_i hw
    rw [if_pos hw] at hs
    split
    · rename_i hk
      rw [if_pos hk] at hs
      obtain ⟨v, h1, h2⟩ := hs
      exact ⟨v, h1, h _ _ hI h2⟩
    · rename_i hk
      rw [if_neg hk] at hs
      exact out_mono (fun _ _ _ x => ⟨x.1, h _ _ x.1 x.2⟩) hs
  · rename_i hw
    rw [if_neg hw] at hs
    exact h _ _ hI hs

theorem sStep_wpOp {k i : Nat} {o : Oper} {K : Act → World → Prop} {a : Act} {w : World} {Q : Exit → Act → World → Prop} (hI : I w) (hi : ops[i]? = some o) (hs : sStep P I ops k o K a w) : wpOp P ops Q i (fun a w => I w ∧ K a w) a w := by
  unfold wpOp
  simp only [hi]
  unfold sStep at hs
  split
  · rename_i hw
    rw [if_pos hw] at hs
    left
    have h1 : o.wp P a w (fun a w => I w ∧ K a w) NoQ := by
      rw [wp_out]
      split at hs
      · obtain ⟨v, h1, h2⟩ := hs
        exact h1.out w hI _ (by rw [upd_nil]; exact ⟨hI, h2⟩)
      · exact hs
    unfold Oper.wp at *
    generalize (execOp a.eval o).run P w = r at *
    cases r with
    | ok n w1 =>
      cases n <;> simp only [Oper.upon] at h1 ⊢ <;> first
        | exact h1
        | exact Calls.mono h1 (fun e w'' he => by cases e <;> first | exact he | exact he.elim | exact absurd he not_lets)
    | halt x w1 => cases x <;> simp only [Oper.upon] at h1 ⊢ <;> exact h1.elim
  · rename_i hw
    rw [if_neg hw] at hs
    exact ⟨hI, hs⟩

/-- Operations of these kinds, the first ahead of the second, may change places. -/
def compat (ki kj : Nat) : Bool := ki == 0 || kj == 0 || (ki == 1 && (kj == 1 || kj == 2))
def kindOk (k : Nat) (o : Oper) : Bool :=
  match k, o.op with
  | 1, .load _ _ => true
  | 1, _ => false
  | 2, .alloc _ | 2, .box _ _ | 2, .buildSlice _ _ _ => true
  | 2, _ => false
  | _, _ => true

theorem load_stable {o : Oper} (hk : kindOk 1 o = true) (ρ : Operand → Value) : Stable P (execOp ρ o) := by
  obtain ⟨dst, op, type, pos, after, guard⟩ := o
  cases op <;> simp only [kindOk, Bool.false_eq_true] at hk
  simp only [execOp]
  exact Stable.bind (Stable.loadAt _ _) fun _ => Stable.pure _
theorem new_grows {o : Oper} (hk : kindOk 2 o = true) (ρ : Operand → Value) : Grows P (execOp ρ o) ∧ ∀ w n w1, (execOp ρ o).run P w = .ok n w1 → ∃ v, n = .value v := by
  have fin : ∀ s : Sem Value, ∀ w n w1, (do let v ← s; pure (Next.value v) : Sem Next).run P w = .ok n w1 → ∃ v, n = .value v := by
    intro s w n w1 h
    rw [Sem.run_bind] at h
    cases hr : s.run P w with
    | halt x w2 => rw [hr] at h; simp at h
    | ok x w2 => rw [hr] at h; simp at h; exact ⟨x, h.1.symm⟩
  have keep : ∀ s : Sem Value, Grows P s → Grows P (do let v ← s; pure (Next.value v) : Sem Next) := by
    intro s hs w r w1 h
    rw [Sem.run_bind] at h
    cases hr : s.run P w with
    | halt x w2 => rw [hr] at h; simp at h
    | ok x w2 =>
      rw [hr] at h
      simp at h
      rw [← h.2]
      exact hs w x w2 hr
  obtain ⟨dst, op, type, pos, after, guard⟩ := o
  cases op <;> simp only [kindOk, Bool.false_eq_true] at hk <;> simp only [execOp]
  · exact ⟨keep _ (Grows.alloc _), fin _⟩
  · exact ⟨keep _ (Grows.box _ _), fin _⟩
  · exact ⟨keep _ (Grows.buildSlice _ _ _), fin _⟩
theorem load_value {o : Oper} (hk : kindOk 1 o = true) (ρ : Operand → Value) : ∀ w n w1, (execOp ρ o).run P w = .ok n w1 → ∃ v, n = .value v := by
  intro w n w1 h
  obtain ⟨dst, op, type, pos, after, guard⟩ := o
  cases op <;> simp only [kindOk, Bool.false_eq_true] at hk
  simp only [execOp, Sem.run_bind] at h
  cases hr : (Instr.loadAt _ _).run P w with
  | halt x w2 => rw [hr] at h; simp at h
  | ok x w2 => rw [hr] at h; simp at h; exact ⟨x, h.1.symm⟩

theorem swap {ki kj : Nat} {oi oj : Oper} (hi : kindOk ki oi = true) (hj : kindOk kj oj = true) (hc : compat ki kj = true) (hap : oi.apart ops oj = true)
    (hsi : ∀ cs b, oi.op ≠ .select cs b) (hsj : ∀ cs b, oj.op ≠ .select cs b) {K : Act → World → Prop} {a : Act} {w : World} (hI : I w)
    (h : sStep P I ops ki oi (fun a1 w1 => sStep P I ops kj oj K a1 w1) a w) : sStep P I ops kj oj (fun a2 w2 => sStep P I ops ki oi K a2 w2) a w := by
  obtain ⟨h1, h2, h3⟩ := Oper.apart_spec hap
  have h2' : ∀ d, oj.dst = some d → oi.dst ≠ some d := fun d hd he => h2 d he hd
  -- i is calm, or passed over
  have caseA : ∀ v, ((Region.wanted oi (yielded ops a.tmps) = true ∧ ki = 0 ∧ CalmV P I oi a v) ∨ (¬ Region.wanted oi (yielded ops a.tmps) = true ∧ v = undef)) → sStep P I ops kj oj K (a.put oi.dst v) w →
      sStep P I ops kj oj (fun a2 w2 => sStep P I ops ki oi K a2 w2) a w := by
    intro v hv hs
    have on : ∀ ds u w2, K (upd (a.put oi.dst v) oj.dst ds u) w2 → sStep P I ops ki oi K (upd a oj.dst ds u) w2 := by
      intro ds u w2 hK
      rw [← upd_put_comm a ds v u h2] at hK
      unfold sStep
      rw [wanted_upd oi a oj.dst ds u h3]
      rcases hv with ⟨hw, hk, hcv⟩ | ⟨hw, rfl⟩
      · rw [if_pos hw, if_pos hk]
        exact ⟨v, hcv.same (exec_upd (ops := ops) oi hsi a oj.dst ds u h3), hK⟩
      · rw [if_neg hw]
        exact hK
    unfold sStep at hs ⊢
    rw [wanted_put oj a oi.dst v h1, execOp_put (ops := ops) oj hsj a oi.dst v h1] at hs
    split
    · rename_i hw
      rw [if_pos hw] at hs
      split
      · rename_i hk
        rw [if_pos hk] at hs
        obtain ⟨u, hu, hK⟩ := hs
        refine ⟨u, hu.same (execOp_put (ops := ops) oj hsj a oi.dst v h1).symm, ?_⟩
        have := on [] u w (by rw [upd_nil]; exact hK)
        rw [upd_nil] at this
        exact this
      · rename_i hk
        rw [if_neg hk] at hs
        exact out_mono (fun ds u w1 hK => ⟨hK.1, on ds u w1 hK.2⟩) hs
    · rename_i hw
      rw [if_neg hw] at hs
      have := on [] undef w (by rw [upd_nil]; exact hs)
      rw [upd_nil] at this
      exact this
  generalize hL : (fun a1 w1 => sStep P I ops kj oj K a1 w1) = L at h
  have hLe : ∀ a1 w1, L a1 w1 → sStep P I ops kj oj K a1 w1 := by
    intro a1 w1 x
    rw [← hL] at x
    exact x
  clear hL
  by_cases hwi : Region.wanted oi (yielded ops a.tmps) = true
  · unfold sStep at h
    rw [if_pos hwi] at h
    by_cases hki : ki = 0
    · rw [if_pos hki] at h
      obtain ⟨v, hv, hs⟩ := h
      exact caseA v (.inl ⟨hwi, hki, hv⟩) (hLe _ _ hs)
    · rw [if_neg hki] at h
      have wj : ∀ ds u, Region.wanted oj (yielded ops (upd a oi.dst ds u).tmps) = Region.wanted oj (yielded ops a.tmps) := fun ds u => wanted_upd oj a oi.dst ds u h1
      have ej : ∀ ds u, execOp (upd a oi.dst ds u).eval oj = execOp a.eval oj := fun ds u => exec_upd (ops := ops) oj hsj a oi.dst ds u h1
      have toI : ∀ v w1, out P ((execOp a.eval oi).run P w1) (fun ds u w2 => I w2 ∧ K ((upd a oi.dst ds u).put oj.dst v) w2) → sStep P I ops ki oi K (a.put oj.dst v) w1 := by
        intro v w1 ho
        unfold sStep
        rw [wanted_put oi a oj.dst v h3, if_pos hwi, if_neg hki, execOp_put (ops := ops) oi hsi a oj.dst v h3]
        exact out_mono (fun ds u w2 hK => by rw [← upd_put_comm a ds v u h2']; exact hK) ho
      by_cases hwj : Region.wanted oj (yielded ops a.tmps) = true
      · by_cases hkj : kj = 0
        · obtain ⟨ds0, u0, w0, hI0, hx⟩ := out_some h
          replace hx := hLe _ _ hx
          unfold sStep at hx
          rw [wj, if_pos hwj, if_pos hkj] at hx
          obtain ⟨v, hv, _⟩ := hx
          have hv' : CalmV P I oj a v := hv.same (ej ds0 u0).symm
          unfold sStep
          rw [if_pos hwj, if_pos hkj]
          refine ⟨v, hv', ?_⟩
          have := toI v w (out_mono (fun ds u w2 hx => by
            obtain ⟨hI2, hx⟩ := hx
            replace hx := hLe _ _ hx
            unfold sStep at hx
            rw [wj, if_pos hwj, if_pos hkj] at hx
            obtain ⟨v', hv2, hK⟩ := hx
            have : v' = v := CalmV.det w hI (hv2.same (ej ds u).symm) hv'
            rw [this] at hK
            exact ⟨hI2, hK⟩) h)
          exact this
        · -- i loads; j loads or makes blocks
          have hk1 : ki = 1 ∧ (kj = 1 ∨ kj = 2) := by
            simp only [compat, Bool.or_eq_true, beq_iff_eq, Bool.and_eq_true] at hc
            rcases hc with (hc | hc) | ⟨hc, hc'⟩
            · exact absurd hc hki
            · exact absurd hc hkj
            · exact ⟨hc, hc'⟩
          obtain ⟨rfl, hkj2⟩ := hk1
          cases hr : (execOp a.eval oi).run P w with
          | halt x w1 => rw [hr] at h; simp only [out] at h
          | ok n w1 =>
            obtain ⟨u, rfl⟩ := load_value hi _ _ _ _ hr
            obtain ⟨rfl, hst⟩ := load_stable (P := P) hi _ _ _ _ hr
            rw [hr] at h
            simp only [out, upd_nil] at h
            replace h := hLe _ _ h.2
            unfold sStep at h
            rw [wanted_put oj a oi.dst u h1, if_pos hwj, if_neg hkj, execOp_put (ops := ops) oj hsj a oi.dst u h1] at h
            refine sStep_out hwj hkj ?_
            have ext : ∀ n w2, (execOp a.eval oj).run P w1 = .ok n w2 → Ext w1 w2 ∧ ∃ v, n = .value v := by
              intro n w2 hrj
              rcases hkj2 with rfl | rfl
              · obtain ⟨rfl, _⟩ := load_stable (P := P) hj _ _ _ _ hrj
                exact ⟨Ext.refl _, load_value hj _ _ _ _ hrj⟩
              · exact ⟨(new_grows (P := P) hj _).1 _ _ _ hrj, (new_grows (P := P) hj _).2 _ _ _ hrj⟩
            cases hrj : (execOp a.eval oj).run P w1 with
            | halt x w2 => rw [hrj] at h; simp only [out] at h
            | ok n w2 =>
              obtain ⟨hext, v, rfl⟩ := ext n w2 hrj
              rw [hrj] at h
              simp only [out, upd_nil] at h ⊢
              refine ⟨h.1, toI v w2 ?_⟩
              rw [hst w2 hext]
              simp only [out, upd_nil]
              exact h
      · unfold sStep
        rw [if_neg hwj]
        refine toI undef w (out_mono (fun ds u w2 hx => ?_) h)
        obtain ⟨hI2, hx⟩ := hx
        replace hx := hLe _ _ hx
        unfold sStep at hx
        rw [wj, if_neg hwj] at hx
        exact ⟨hI2, hx⟩
  · unfold sStep at h
    rw [if_neg hwi] at h
    exact caseA undef (.inr ⟨hwi, rfl⟩) (hLe _ _ h)

/-! ### The orders -/

variable {md : Region.Mode}

/-- Which operations wait for number k, directly or through others (edges lead back alone). -/
def depTo (md : Region.Mode) (ops : Array Oper) (k : Nat) : Nat → List Bool
  | 0 => []
  | n + 1 =>
    let d := depTo md ops k n
    d ++ [((ops[n]?).map fun o => o.after.any fun e => Region.binds md e && (e.on == k || d.getD e.on false)).getD false]

theorem depTo_length (k n : Nat) : (depTo md ops k n).length = n := by
  induction n with
  | zero => rfl
  | succ n ih => simp [depTo, ih]

def Closed (md : Region.Mode) (ops : Array Oper) (listed : Array Bool) : Prop :=
  ∀ j oj, ops[j]? = some oj → listed.getD j false = true → ∀ e ∈ oj.after, Region.binds md e = true → listed.getD e.on false = true

theorem Closed.set {i : Nat} {listed : Array Bool} (inv : Closed md ops listed) (hi : i ∈ Region.ready md ops listed) : Closed md ops (listed.setIfInBounds i true) := by
  obtain ⟨_, oi, hoi, hall⟩ := mem_ready.1 hi
  intro j oj hj hl e he hb
  by_cases hij : i = j
  · subst hij
    have : oj = oi := Option.some.inj (hj.symm.trans hoi)
    subst this
    exact getD_set_true (hall e he hb)
  · rw [getD_set_ne false hij] at hl
    exact getD_set_true (inv j oj hj hl e he hb)

theorem dep_not {k : Nat} {listed : Array Bool} (inv : Closed md ops listed) (hk : listed.getD k false = false) : ∀ n j, (depTo md ops k n).getD j false = true →
    listed.getD j false = false ∧ j ∉ Region.ready md ops listed := by
  intro n
  induction n with
  | zero => intro j h; simp [depTo] at h
  | succ n ih =>
    intro j h
    simp only [depTo] at h
    have hlen := depTo_length (md := md) (ops := ops) k n
    rcases Nat.lt_trichotomy j n with hj | hj | hj
    · rw [List.getD_eq_getElem?_getD, List.getElem?_append_left (by omega), ← List.getD_eq_getElem?_getD] at h
      exact ih j h
    · subst hj
      rw [List.getD_eq_getElem?_getD, List.getElem?_append_right (by omega), hlen, Nat.sub_self] at h
      cases ho : ops[j]? with
      | none => rw [ho] at h; simp at h
      | some o =>
        rw [ho] at h
        simp only [Option.map_some, Option.getD_some, List.getElem?_cons_zero, Array.any_eq_true'] at h
        obtain ⟨e, he, hb⟩ := h
        simp only [Bool.and_eq_true, Bool.or_eq_true, beq_iff_eq] at hb
        have hun : listed.getD e.on false = false := by
          rcases hb.2 with h1 | h1
          · rw [h1]; exact hk
          · exact (ih _ h1).1
        refine ⟨?_, fun hr => ?_⟩
        · cases hl : listed.getD j false with
          | false => rfl
          | true => have := inv j o ho hl e he hb.1; rw [hun] at this; cases this
        · obtain ⟨_, o', ho', hall⟩ := mem_ready.1 hr
          have : o' = o := Option.some.inj (ho'.symm.trans ho)
          subst this
          have := hall e he hb.1
          rw [hun] at this
          cases this
    · rw [List.getD_eq_getElem?_getD, List.getElem?_eq_none (by simp [hlen]; omega)] at h
      cases h

/-- The operation 'i', of those that are left, may be taken first. -/
def mayFirst (md : Region.Mode) (ops : Array Oper) (ks : List Nat) (listed : Array Bool) (i : Nat) : Bool :=
  match ops[i]? with
  | none => false
  | some oi =>
    let d := depTo md ops i ops.size
    (List.range ops.size).all fun j => j == i || listed.getD j true || d.getD j false || match ops[j]? with
      | some oj => compat (ks.getD i 3) (ks.getD j 3) && oi.apart ops oj
      | none => true

def serFrom (md : Region.Mode) (ops : Array Oper) (ks : List Nat) : List Nat → Array Bool → Bool
  | [], listed => (Region.ready md ops listed).isEmpty
  | i :: rest, listed => (Region.ready md ops listed).contains i && mayFirst md ops ks listed i && serFrom md ops ks rest (listed.setIfInBounds i true)

def kindsOk (ops : Array Oper) (ks : List Nat) : Bool := (List.range ops.size).all fun j => match ops[j]? with | some o => kindOk (ks.getD j 3) o | none => true
def serB (ops : Array Oper) (ks : List Nat) (perm : List Nat) : Bool :=
  Region.noSelect ops && kindsOk ops ks && perm.length == ops.size && serFrom .any ops ks perm (Array.replicate ops.size false)

/-- Operation number i. -/
def sOp (P : Program) (I : World → Prop) (ops : Array Oper) (ks : List Nat) (i : Nat) (K : Act → World → Prop) (a : Act) (w : World) : Prop :=
  match ops[i]? with
  | none => K a w
  | some o => sStep P I ops (ks.getD i 3) o K a w

theorem sOp_mono {ks : List Nat} {i : Nat} {K K' : Act → World → Prop} {a : Act} {w : World} (hI : I w) (h : ∀ a w, I w → K a w → K' a w) (hs : sOp P I ops ks i K a w) : sOp P I ops ks i K' a w := by
  unfold sOp at *
  split
  · rename_i ho; simp only [ho] at hs; exact h _ _ hI hs
  · rename_i o ho; simp only [ho] at hs; exact sStep_mono hI h hs

def wpAnyS (P : Program) (I : World → Prop) (md : Region.Mode) (ops : Array Oper) (ks : List Nat) (Q : Act → World → Prop) : Nat → Array Bool → Act → World → Prop
  | 0, listed, a, w => Region.ready md ops listed = [] ∧ Q a w
  | fuel + 1, listed, a, w =>
    (Region.ready md ops listed = [] → Q a w) ∧ ∀ i ∈ Region.ready md ops listed, sOp P I ops ks i (wpAnyS P I md ops ks Q fuel (listed.setIfInBounds i true)) a w

theorem wpAny_of_S {ks : List Nat} {Q : Exit → Act → World → Prop} : ∀ (fuel : Nat) (listed : Array Bool) (a : Act) (w : World), I w → wpAnyS P I md ops ks (fun a w => Q .normal a w) fuel listed a w → wpAny P md ops Q fuel listed a w
  | 0, _, _, _, _, h => h
  | fuel + 1, _, a, w, hI, h => ⟨h.1, fun i hi => by
      have h1 := h.2 i hi
      unfold sOp at h1
      obtain ⟨_, o, ho, _⟩ := mem_ready.1 hi
      simp only [ho] at h1
      exact wpOp_mono (fun a' w' h' => wpAny_of_S fuel _ a' w' h'.1 h'.2) (sStep_wpOp hI ho h1)⟩

theorem getD_both' {listed : Array Bool} {i : Nat} (h : listed.getD i true = false) : listed.getD i false = false := by
  rcases Nat.lt_or_ge i listed.size with h' | h'
  · simp [h'] at h ⊢; exact h
  · simp [Array.getElem?_eq_none h'] at h

theorem wpAnyS_first {ks : List Nat} {Q : Act → World → Prop} {i : Nat} {oi : Oper} (hi : ops[i]? = some oi) (hsel : Region.noSelect ops = true) (hks : kindsOk ops ks = true) :
    ∀ (fuel : Nat) (listed : Array Bool) (a : Act) (w : World), I w → Closed md ops listed →
      (∀ j oj, ops[j]? = some oj → j ≠ i → listed.getD j true = false → (depTo md ops i ops.size).getD j false = false → compat (ks.getD i 3) (ks.getD j 3) = true ∧ oi.apart ops oj = true) →
      i ∈ Region.ready md ops listed → sOp P I ops ks i (wpAnyS P I md ops ks Q fuel (listed.setIfInBounds i true)) a w → wpAnyS P I md ops ks Q (fuel + 1) listed a w := by
  have kOk : ∀ j oj, ops[j]? = some oj → kindOk (ks.getD j 3) oj = true := by
    intro j oj hj
    have := List.all_eq_true.1 hks j (List.mem_range.2 (Array.getElem?_eq_some_iff.1 hj).1)
    simpa [hj] using this
  intro fuel
  induction fuel with
  | zero =>
    intro listed a w _ _ _ hr H
    refine ⟨fun h => (by rw [h] at hr; cases hr), fun j hj => ?_⟩
    by_cases hji : j = i
    · subst hji; exact H
    · unfold sOp at H
      simp only [hi] at H
      have hne : (Region.ready md ops (listed.setIfInBounds i true)) ≠ [] := fun h0 => by
        have := ready_mono hj hji
        rw [h0] at this
        cases this
      have no : ∀ a w, ¬ wpAnyS P I md ops ks Q 0 (listed.setIfInBounds i true) a w := fun a w h => hne h.1
      exfalso
      unfold sStep at H
      split at H
      · split at H
        · obtain ⟨v, _, h2⟩ := H; exact no _ _ h2
        · obtain ⟨_, _, _, _, h2⟩ := out_some H; exact no _ _ h2
      · exact no _ _ H
  | succ fuel ih =>
    intro listed a w hI inv hfree hr H
    refine ⟨fun h => (by rw [h] at hr; cases hr), fun j hj => ?_⟩
    by_cases hji : j = i
    · subst hji; exact H
    · obtain ⟨hjun, oj, hoj, hall⟩ := mem_ready.1 hj
      have hiun := getD_both' (mem_ready.1 hr).1
      have hnd : (depTo md ops i ops.size).getD j false = false := by
        cases hd : (depTo md ops i ops.size).getD j false with
        | false => rfl
        | true => exact absurd hj (dep_not inv hiun _ j hd).2
      obtain ⟨hcp, hap⟩ := hfree j oj hoj hji hjun hnd
      have h1 : sStep P I ops (ks.getD i 3) oi (fun a1 w1 => sStep P I ops (ks.getD j 3) oj (fun a2 w2 => wpAnyS P I md ops ks Q fuel ((listed.setIfInBounds i true).setIfInBounds j true) a2 w2) a1 w1) a w := by
        unfold sOp at H
        simp only [hi] at H
        refine sStep_mono hI (fun a1 w1 hI1 h => ?_) H
        have h2 := h.2 j (ready_mono hj hji)
        unfold sOp at h2
        simp only [hoj] at h2
        exact h2
      have h3 := swap (kOk i oi hi) (kOk j oj hoj) hcp hap (fun cs b => Region.noSelect_spec hsel i oi cs b hi) (fun cs b => Region.noSelect_spec hsel j oj cs b hoj) hI h1
      unfold sOp
      simp only [hoj]
      refine sStep_mono hI (fun a2 w2 hI2 h => ?_) h3
      refine ih (listed.setIfInBounds j true) a2 w2 hI2 (inv.set hj) (fun k ok hk hki hun hd => hfree k ok hk hki ?_ hd) (ready_mono hr (Ne.symm hji)) ?_
      · by_cases hjk : j = k
        · subst hjk; exact hjun
        · rw [getD_set_ne true hjk] at hun; exact hun
      · unfold sOp
        simp only [hi]
        rw [Array.setIfInBounds_comm _ _ hji]
        exact h

/-- The walk in the order 'perm'. -/
def wpSer (P : Program) (I : World → Prop) (ops : Array Oper) (ks : List Nat) (Q : Act → World → Prop) : List Nat → Act → World → Prop
  | [], a, w => Q a w
  | i :: rest, a, w => sOp P I ops ks i (wpSer P I ops ks Q rest) a w

theorem wpAnyS_ser {ks : List Nat} {Q : Act → World → Prop} (hsel : Region.noSelect ops = true) (hks : kindsOk ops ks = true) : ∀ (perm : List Nat) (listed : Array Bool) (a : Act) (w : World), I w → Closed md ops listed →
    serFrom md ops ks perm listed = true → wpSer P I ops ks Q perm a w → wpAnyS P I md ops ks Q perm.length listed a w
  | [], listed, a, w, _, _, hB, h => ⟨by simpa [serFrom] using hB, h⟩
  | i :: rest, listed, a, w, hI, inv, hB, h => by
    simp only [serFrom, Bool.and_eq_true] at hB
    obtain ⟨⟨hr, hf⟩, hB'⟩ := hB
    have hr' : i ∈ Region.ready md ops listed := by simpa using hr
    unfold mayFirst at hf
    cases ho : ops[i]? with
    | none => simp [ho] at hf
    | some oi =>
      simp only [ho] at hf
      refine wpAnyS_first ho hsel hks rest.length listed a w hI inv (fun j oj hj hji hun hd => ?_) hr' (sOp_mono hI (fun a' w' hI' h' => wpAnyS_ser hsel hks rest _ a' w' hI' (inv.set hr') hB' h') h)
      have h1 := List.all_eq_true.1 hf j (List.mem_range.2 (Array.getElem?_eq_some_iff.1 hj).1)
      simp only [Bool.or_eq_true, beq_iff_eq, hji, hun, hd, Bool.false_eq_true, false_or, hj, Bool.and_eq_true] at h1
      exact h1

theorem closed_start : Closed md ops (Array.replicate ops.size false) := by
  intro j oj _ hl
  exfalso
  rcases Nat.lt_or_ge j ops.size with h | h
  · simp [h] at hl
  · simp [h] at hl

/-- ONE ORDER SERVES EVERY ORDER. -/
theorem wp_region_serI {id : Nat} {Q : Exit → Act → World → Prop} {a : Act} {w : World} {l : List Oper} (I : World → Prop) (ks perm : List Nat) (hm : P.follows .mixedOrders = true) (hB : serB l.toArray ks perm = true) (hI : I w.drew)
    (h : wpSer P I l.toArray ks (fun a w => Q .normal a w) perm a w.drew) : (Code.region id l.toArray true).wp P Q a w := by
  simp only [serB, Bool.and_eq_true, beq_iff_eq] at hB
  obtain ⟨⟨⟨hsel, hks⟩, hlen⟩, hser⟩ := hB
  refine wp_region_any hm (wpAny_of_S (ks := ks) (I := I) _ _ _ _ hI ?_)
  have H := wpAnyS_ser (I := I) hsel hks perm _ a _ hI (closed_start (md := .any) (ops := l.toArray)) hser h
  rw [hlen] at H
  exact H
/-- The same where nothing is asked of the world. -/
theorem wp_region_ser {id : Nat} {Q : Exit → Act → World → Prop} {a : Act} {w : World} {l : List Oper} (ks perm : List Nat) (hm : P.follows .mixedOrders = true) (hB : serB l.toArray ks perm = true)
    (h : wpSer P (fun _ => True) l.toArray ks (fun a w => Q .normal a w) perm a w.drew) : (Code.region id l.toArray true).wp P Q a w :=
  wp_region_serI (fun _ => True) ks perm hm hB trivial h

/-! ### The steps of the walk -/

/-- It yields a value, or halts. -/
def valueOp (o : Oper) : Bool :=
  match o.op with
  | .move _ | .assign _ | .pick _ _ _ | .nilCheck _ | .binOp _ _ _ _ _ | .unOp _ _ _ | .convert _ _ _ | .makeInterface _ _ | .makeFunc _ _ _ | .fieldAddr _ _ _ | .field _ _ _ | .indexAddr _ _ _ | .index _ _ _
  | .slice _ _ _ _ _ | .extract _ _ | .load _ _ | .build _ _ | .lookup _ _ _ _ => true
  | .call { callee := .builtin .len, .. } | .call { callee := .builtin .cap, .. } | .call { callee := .builtin .min, .. } | .call { callee := .builtin .max, .. } => true
  | _ => false

theorem value_of_op {o : Oper} (h : valueOp o = true) (ρ : Operand → Value) : ∀ w n w1, (execOp ρ o).run P w = .ok n w1 → ∃ v, n = .value v := by
  have fin : ∀ s : Sem Value, ∀ w n w1, (do let v ← s; pure (Next.value v) : Sem Next).run P w = .ok n w1 → ∃ v, n = .value v := by
    intro s w n w1 h
    rw [Sem.run_bind] at h
    cases hr : s.run P w with
    | halt x w2 => rw [hr] at h; simp at h
    | ok x w2 => rw [hr] at h; simp at h; exact ⟨x, h.1.symm⟩
  have one : ∀ v : Value, ∀ w n w1, (pure (Next.value v) : Sem Next).run P w = .ok n w1 → ∃ v, n = .value v := by
    intro v w n w1 h
    simp at h
    exact ⟨v, h.1.symm⟩
  intro w n w1 hr
  obtain ⟨dst, op, type, pos, after, guard⟩ := o
  cases op <;> simp only [valueOp, Bool.false_eq_true] at h <;> simp only [execOp] at hr
  case move => exact one _ _ _ _ hr
  case assign => exact one _ _ _ _ hr
  case pick c x y =>
    rw [Sem.run_bind] at hr
    cases hb : (asBool (ρ c)).run P w with
    | halt x w2 => rw [hb] at hr; simp at hr
    | ok x w2 => rw [hb] at hr; exact one _ _ _ _ (by simpa using hr)
  case nilCheck x =>
    have hn : ∀ (α : Type) (e : RuntimeError) (r : α), (runtimePanic e : Sem α).run P w ≠ .ok r w1 := by
      intro α e r
      cases e <;> simp [runtimePanic, newVar, newRow, elemOf, underlying] <;> repeat' (first | (split <;> simp) | simp)
    revert hr
    split
    · intro hr; exact absurd hr (hn _ _ _)
    · intro hr; exact absurd hr (hn _ _ _)
    · intro hr; exact absurd hr (hn _ _ _)
    · split
      · intro hr; exact absurd hr (hn _ _ _)
      · intro hr
        rw [Sem.run_bind] at hr
        simp only [run_program, Result.andThen_ok, Sem.run_bind] at hr
        generalize (nilAhead _ _ _ _).run P w = r1 at hr
        cases r1 with
        | halt x w2 => simp at hr
        | ok x w2 =>
          simp only [Result.andThen_ok] at hr
          split at hr <;> simp at hr
          exact ⟨_, hr.1.symm⟩
      · exact one _ _ _ _
    · exact one _ _ _ _
  case binOp =>
    simp only [bind_assoc] at hr
    rw [Sem.run_bind] at hr
    generalize (eqGuard _ _ _ _ _ _).run P w = r1 at hr
    cases r1 with
    | halt x w2 => simp at hr
    | ok x w2 => simp only [Result.andThen_ok] at hr; exact fin _ _ _ _ hr
  case call c =>
    obtain ⟨callee, args, ats⟩ := c
    cases callee with
    | value f => simp at h
    | invoke r m => simp at h
    | builtin b =>
      cases b <;> simp at h <;> simp only [resolve, pure_bind, invoke, builtin] at hr <;> exact fin _ _ _ _ hr
  all_goals exact fin _ _ _ _ hr

theorem wpSer_nil {ks : List Nat} {Q : Act → World → Prop} {a : Act} {w : World} (h : Q a w) : wpSer P I ops ks Q [] a w := h

theorem wpSer_skip {ks : List Nat} {Q : Act → World → Prop} {a : Act} {w : World} {i : Nat} {rest : List Nat} {o : Oper} (hi : ops[i]? = some o) (hw : Region.wanted o (yielded ops a.tmps) = false)
    (h : wpSer P I ops ks Q rest (a.put o.dst undef) w) : wpSer P I ops ks Q (i :: rest) a w := by
  unfold wpSer sOp
  simp only [hi]
  unfold sStep
  rw [if_neg (by rw [hw]; exact Bool.false_ne_true)]
  exact h

/-- An operation that is not calm; the class must hold behind it. -/
theorem wpSer_opI {ks : List Nat} {Q : Act → World → Prop} {a : Act} {w : World} {i : Nat} {rest : List Nat} {o : Oper} (hi : ops[i]? = some o) (hk : (ks.getD i 3 == 0) = false) (hw : Region.wanted o (yielded ops a.tmps) = true)
    (h : ∀ K : Act → World → Prop, (∀ a w, I w → wpSer P I ops ks Q rest a w → K a w) → o.wp P a w K NoQ) : wpSer P I ops ks Q (i :: rest) a w := by
  unfold wpSer sOp
  simp only [hi]
  exact sStep_out hw (by simpa using hk) (wp_out.1 (h (fun a w => I w ∧ wpSer P I ops ks Q rest a w) (fun _ _ x y => ⟨x, y⟩)))
theorem wpSer_op {ks : List Nat} {Q : Act → World → Prop} {a : Act} {w : World} {i : Nat} {rest : List Nat} {o : Oper} (hi : ops[i]? = some o) (hk : (ks.getD i 3 == 0) = false) (hw : Region.wanted o (yielded ops a.tmps) = true)
    (h : ∀ K : Act → World → Prop, (∀ a w, wpSer P (fun _ => True) ops ks Q rest a w → K a w) → o.wp P a w K NoQ) : wpSer P (fun _ => True) ops ks Q (i :: rest) a w :=
  wpSer_opI hi hk hw fun K hK => h K fun a w x => hK a w trivial x

/-- By a law that speaks of 'wpList'. -/
theorem wpSer_lawI {ks : List Nat} {Q : Act → World → Prop} {a : Act} {w : World} {i : Nat} {rest : List Nat} {o : Oper} (hi : ops[i]? = some o) (hk : (ks.getD i 3 == 0) = false) (hw : Region.wanted o (yielded ops a.tmps) = true)
    (h : ∀ K : Act → World → Prop, (∀ a w, I w → wpSer P I ops ks Q rest a w → K a w) → wpList P ops (Exit.then K NoQ) [o] a w) : wpSer P I ops ks Q (i :: rest) a w := by
  refine wpSer_opI hi hk hw fun K hK => ?_
  have h1 := h K hK
  unfold wpList at h1
  rw [if_pos hw] at h1
  rcases h1 with h1 | ⟨_, _, _, h1⟩
  · unfold Oper.wp at *
    generalize (execOp a.eval o).run P w = r at *
    cases r with
    | ok n w1 =>
      cases n <;> simp only [Oper.upon] at h1 ⊢ <;> first
        | exact h1
        | exact Calls.mono h1 (fun e w'' he => by cases e <;> first | exact he | exact he.elim | (obtain ⟨_, _, h2⟩ := he; exact h2.elim))
        | exact Rows.mono h1 (fun _ _ he => he)
    | halt x w1 => cases x <;> simp only [Oper.upon] at h1 ⊢ <;> exact h1.elim
  · exact h1.elim
theorem wpSer_law {ks : List Nat} {Q : Act → World → Prop} {a : Act} {w : World} {i : Nat} {rest : List Nat} {o : Oper} (hi : ops[i]? = some o) (hk : (ks.getD i 3 == 0) = false) (hw : Region.wanted o (yielded ops a.tmps) = true)
    (h : ∀ K : Act → World → Prop, (∀ a w, wpSer P (fun _ => True) ops ks Q rest a w → K a w) → wpList P ops (Exit.then K NoQ) [o] a w) : wpSer P (fun _ => True) ops ks Q (i :: rest) a w :=
  wpSer_lawI hi hk hw fun K hK => h K fun a w x => hK a w trivial x

theorem put_at {a : Act} {d : Nat} {v : Value} (hlt : d < a.tmps.size) : (a.put (some d) v).tmps.getD d undef = v := by simp [Act.put, hlt]

/-- A calm operation. -/
theorem wpSer_calmI {ks : List Nat} {Q : Act → World → Prop} {a : Act} {w : World} {i : Nat} {rest : List Nat} {o : Oper} {d : Nat} (hi : ops[i]? = some o) (hk : (ks.getD i 3 == 0) = true) (hv : valueOp o = true)
    (hw : Region.wanted o (yielded ops a.tmps) = true) (hd : o.dst = some d) (hlt : decide (d < a.tmps.size) = true) (hI : I w) (a' : Act)
    (h : ∀ (w' : World) (K : Act → World → Prop), I w' → K a' w' → o.wp P a w' K NoQ) (h2 : wpSer P I ops ks Q rest a' w) : wpSer P I ops ks Q (i :: rest) a w := by
  have hlt' := of_decide_eq_true hlt
  have key : ∀ w', I w' → (execOp a.eval o).run P w' = .ok (.value (a'.tmps.getD d undef)) w' ∧ a.put o.dst (a'.tmps.getD d undef) = a' := by
    intro w' hI'
    have h1 := wp_out.1 (h w' (fun x y => x = a' ∧ y = w') hI' ⟨rfl, rfl⟩)
    cases hr : (execOp a.eval o).run P w' with
    | halt x w1 => rw [hr] at h1; simp only [out] at h1
    | ok n w1 =>
      obtain ⟨v, rfl⟩ := value_of_op hv _ _ _ _ hr
      rw [hr] at h1
      simp only [out, upd_nil] at h1
      obtain ⟨e1, e2⟩ := h1
      have e3 : a'.tmps.getD d undef = v := by rw [← e1, hd]; exact put_at hlt'
      rw [e3, e2]
      exact ⟨rfl, e1⟩
  unfold wpSer sOp
  simp only [hi]
  unfold sStep
  rw [if_pos hw, if_pos (by simpa using hk)]
  exact ⟨_, fun w' hI' => (key w' hI').1, by rw [(key w hI).2]; exact h2⟩
theorem wpSer_calm {ks : List Nat} {Q : Act → World → Prop} {a : Act} {w : World} {i : Nat} {rest : List Nat} {o : Oper} {d : Nat} (hi : ops[i]? = some o) (hk : (ks.getD i 3 == 0) = true) (hv : valueOp o = true)
    (hw : Region.wanted o (yielded ops a.tmps) = true) (hd : o.dst = some d) (hlt : decide (d < a.tmps.size) = true) (a' : Act)
    (h : ∀ (w' : World) (K : Act → World → Prop), K a' w' → o.wp P a w' K NoQ) (h2 : wpSer P (fun _ => True) ops ks Q rest a' w) : wpSer P (fun _ => True) ops ks Q (i :: rest) a w :=
  wpSer_calmI hi hk hv hw hd hlt trivial a' (fun w' K _ hK => h w' K hK) h2
end
end
end Go.Proofs.YtchgieogdinglaaGreat.Ser
