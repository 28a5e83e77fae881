/- Tactics for a region that draws its order, walked in one order (XSer). -/
import Derived.Test.YtchgieogdinglaaGreatBase
namespace Go.Proofs.YtchgieogdinglaaGreat.Ser
section
variable {P : Program} {I : World → Prop} {ops : Array Oper}
theorem wpSer_calmE {ks : List Nat} {Q : Act → World → Prop} {a : Act} {w : World} {i : Nat} {rest : List Nat} {o : Oper} {d : Nat} (hi : ops[i]? = some o) (hk : (ks.getD i 3 == 0) = true) (hv : valueOp o = true)
    (hw : Region.wanted o (yielded ops a.tmps) = true) (hd : o.dst = some d) (hlt : decide (d < a.tmps.size) = true) (hI : I w)
    (h : ∃ a', (∀ (w' : World) (K : Act → World → Prop), I w' → K a' w' → o.wp P a w' K NoQ) ∧ wpSer P I ops ks Q rest a' w) : wpSer P I ops ks Q (i :: rest) a w := by
  obtain ⟨a', h1, h2⟩ := h
  exact wpSer_calmI hi hk hv hw hd hlt hI a' h1 h2
end
theorem inv_then {A B : Prop} (ha : A) (hb : A → B) : A ∧ B := ⟨ha, hb ha⟩
end Go.Proofs.YtchgieogdinglaaGreat.Ser
