/- The law's play of Tick. -/
import Derived.Test.YtchgieogdinglaaLawD
set_option linter.unusedSimpArgs false
set_option linter.unusedVariables false
namespace Go.Proofs.Ytchgieogdinglaa
open Go.RowKit
open Ser
section
variable {c : PC} {d : RC} {w w1 w2 : World} {bs ds : List Bk} {N : Int} {G H : Nat → Prop}
set_option maxHeartbeats 1000000 in
set_option maxRecDepth 20000 in
theorem play_0 (T : Two c d w bs ds N G H) (hN : N ≤ 576460752303423488) (a x : Int) :
    Calls Try.prog 10 #[.pointer (some ⟨c.pb, 0, none⟩), .pointer (some ⟨d.pb, 0, none⟩), .agg #[.int .i64 0, .int .i64 a, .int .i64 x]] w (Played c d w bs.length ds.length (N + 1) G H) := by
  have kA : Kept (fun _ => False) w (w.alloc (.cells #[.int .i64 0, .int .i64 a, .int .i64 x] 33)) := (Kept.refl _ _).alloc _
  have T2 := T.kept kA (fun _ _ x => x) (fun _ _ x => x)
  obtain ⟨F, mb, now, set, ts, sl, sv, hw, hFG, hFp, hFl, hFh⟩ := T2.p.wh
  have hop := pool_Tick T2.p hN hw hFG hFp hFl hFh
  have HOP := Lib.hid hop
  have HT := Lib.hid T2
  clear T T2 hop hw hFG hFp hFl hFh
  go_enter Try.func10, Try.ntmps10
  go_wp2_with fail
  refine HOP.out.mono ?_
  rintro e w1 ⟨v1, l, rfl, hnd, hmm, hri, hfr, hll, hp, hk⟩
  have hr1 := HT.out.r.kept hk (fun i hi hG => HT.out.apart i hG hi) (Int.le_refl _)
  have href := ref_PTick hr1 hN
  have HREF := Lib.hid href
  have HST := Lib.hid (show Step c _ bs N G w1 from ⟨_, G, tfold_len bs l, hp, ⟨hk, fun i hi => .inl hi⟩⟩)
  have HRI := Lib.hid hri
  have hfo := tfold_out bs l
  have HFR := Lib.hid hfr
  have H1 := Lib.hid hr1
  clear hr1 href hp hk hri hfr hmm hnd
  go_wp2_with fail
  refine HREF.out.mono ?_
  rintro e w3 ⟨v2, O, rfl, hri2, hol, hfr2, hst3⟩
  have hlt := HT.out.r.lt
  have hri3 : RI 3 w3 v1 (tfold bs l).2 := by
    obtain ⟨_, _, _, _, hh⟩ := hst3
    exact HRI.out.kept hh.kept (fun q hq hH => by have := HFR.out q hq; have := hlt q hH; omega)
  have hint := law_ints hri3 hri2 (by omega) hol
  have HINT := Lib.hid hint
  have HS3 := Lib.hid hst3
  clear hri3 hri2 hfr2 hst3 hint hlt
  go_wp2_with fail
  refine HINT.out.mono ?_
  rintro e w4 ⟨⟨b, rfl⟩, hk4⟩
  have HK4 := Lib.hid hk4
  clear hk4
  go_wp2_with fail
  go_ret
  obtain ⟨bs', ds', G', H', q1, q2, q3, q4, q5⟩ := HT.out.steps HST.out (Kept.refl _ _) (fun _ => HS3.out)
  exact ⟨⟨b, rfl⟩, bs', ds', G', H', q1, q2, q3.kept HK4.out (fun _ _ x => x) (fun _ _ x => x), ((kA.mono (fun _ _ x => x.elim)).trans q4).trans (HK4.out.mono (fun _ _ x => x.elim)), fun i hi => (q5 i hi).imp (fun x => x) (fun x => Nat.le_trans kA.size x)⟩
end
end Go.Proofs.Ytchgieogdinglaa
