/- wheel.Tick. -/
import Derived.Test.YtchgieogdinglaaWheelS
set_option linter.unusedSimpArgs false
namespace Go.Proofs.Ytchgieogdinglaa
open Go.RowKit Go.Sort Go.Shelf
open Ser

/-- The timers of these numbers that are due. -/
def dueOf (n1 : Int) (ts : List Tim) : List Int → List Tim
  | [] => []
  | id :: r => match tlook id ts with
    | some p => if p.1 = n1 then (id, p) :: dueOf n1 ts r else dueOf n1 ts r
    | none => dueOf n1 ts r
def due1 (n1 : Int) (ts : List Tim) (id : Int) : List Tim := dueOf n1 ts [id]
theorem dueOf_append (n1 : Int) (ts : List Tim) (b : List Int) : ∀ a, dueOf n1 ts (a ++ b) = dueOf n1 ts a ++ dueOf n1 ts b
  | [] => rfl
  | id :: r => by
    simp only [List.cons_append, dueOf]
    split
    · split
      · rw [dueOf_append n1 ts b r]; rfl
      · exact dueOf_append n1 ts b r
    · exact dueOf_append n1 ts b r
theorem dueOf_take (n1 : Int) (ts : List Tim) (l : List Int) (k : Nat) (hk : k < l.length) : dueOf n1 ts (l.take (k + 1)) = dueOf n1 ts (l.take k) ++ dueOf n1 ts [l.getD k 0] := by
  rw [List.take_succ_eq_append_getElem hk, dueOf_append]
  simp [hk]
theorem mem_dueOf {n1 : Int} {ts : List Tim} {t : Tim} : ∀ {l : List Int}, t ∈ dueOf n1 ts l ↔ t.1 ∈ l ∧ tlook t.1 ts = some t.2 ∧ t.2.1 = n1
  | [] => by simp [dueOf]
  | id :: r => by
    simp only [dueOf]
    have ih := mem_dueOf (n1 := n1) (ts := ts) (t := t) (l := r)
    by_cases hid : t.1 = id
    · subst hid
      cases hl : tlook t.1 ts with
      | none => simp only [ih, hl]; simp
      | some p =>
        by_cases hp : p.1 = n1
        · simp only [hp, if_true, List.mem_cons, ih, hl, Option.some.injEq, true_or, true_and]
          constructor
          · rintro (h | h)
            · rw [h]; exact ⟨rfl, hp⟩
            · exact h.2
          · rintro ⟨h1, _⟩
            left
            rw [h1]
        · simp only [hp, if_false, ih, hl, Option.some.injEq, List.mem_cons, true_or, true_and]
          constructor
          · exact fun h => h.2
          · rintro ⟨h1, h2⟩
            rw [← h1] at h2
            exact absurd h2 hp
    · have e : t.1 ∈ id :: r ↔ t.1 ∈ r := by simp [hid]
      rw [e]
      split
      · split
        · simp only [List.mem_cons, ih]
          constructor
          · rintro (h | h)
            · exact absurd (by rw [h]) hid
            · exact h
          · exact .inr
        · exact ih
      · exact ih
theorem nodup_dueOf {n1 : Int} {ts : List Tim} : ∀ {l : List Int}, l.Nodup → ((dueOf n1 ts l).map (·.1)).Nodup
  | [], _ => List.nodup_nil
  | id :: r, h => by
    have ih := nodup_dueOf (n1 := n1) (ts := ts) (List.nodup_cons.1 h).2
    simp only [dueOf]
    split
    · split
      · rw [List.map_cons, List.nodup_cons]
        refine ⟨fun hm => ?_, ih⟩
        obtain ⟨t, ht, e⟩ := List.mem_map.1 hm
        exact (List.nodup_cons.1 h).1 (by have := (mem_dueOf.1 ht).1; rw [e] at this; exact this)
      · exact ih
    · exact ih

def tdels (l : List Int) (ts : List Tim) : List Tim := l.foldl (fun ts i => tdel i ts) ts
theorem tdels_snoc (l : List Int) (x : Int) (ts : List Tim) : tdels (l ++ [x]) ts = tdel x (tdels l ts) := by simp [tdels]
theorem tdels_take (l : List Int) (k : Nat) (hk : k < l.length) (ts : List Tim) : tdels (l.take (k + 1)) ts = tdel (l.getD k 0) (tdels (l.take k) ts) := by
  rw [List.take_succ_eq_append_getElem hk, tdels_snoc]
  simp [hk]
theorem nodup_tdels : ∀ (l : List Int) {ts : List Tim}, (ids ts).Nodup → (ids (tdels l ts)).Nodup
  | [], _, h => h
  | x :: l, _, h => nodup_tdels l (ids_tdel h x)
theorem mem_tdels {t : Tim} : ∀ (l : List Int) {ts : List Tim}, (ids ts).Nodup → (t ∈ tdels l ts ↔ t ∈ ts ∧ t.1 ∉ l)
  | [], ts, _ => by simp [tdels]
  | x :: l, ts, h => by
    have ih := mem_tdels (t := t) l (ids_tdel h x)
    rw [mem_tdel_iff h] at ih
    simp only [tdels, List.foldl_cons] at ih ⊢
    rw [ih]
    simp only [List.mem_cons, not_or, and_assoc]

/-- A tick later. -/
theorem WOk.ticked {now set : Int} {ts ts0 : List Tim} {sl sl0 : List (List Int)} (h0 : WOk now set ts0 sl0) {l : List Int} (hl : ∀ x, x ∈ l ↔ ∃ t ∈ ts0, t.1 = x ∧ t.2.1 = now + 1) (e : ts = tdels l ts0) (h : WOk now set ts sl) : WOk (now + 1) set ts sl := by
  refine ⟨by have := h.now0; omega, h.set0, h.len, h.nodup, fun t ht => ?_, h.rows, h.both⟩
  have h1 := h.timer t ht
  rw [e] at ht
  obtain ⟨h2, h3⟩ := (mem_tdels l h0.nodup).1 ht
  have h4 : t.2.1 ≠ now + 1 := fun e => h3 ((hl _).2 ⟨t, h2, rfl, e⟩)
  omega

/-- The due timers are just those that the slot's row names. -/
theorem WOk.due {now set : Int} {ts : List Tim} {sl : List (List Int)} (h : WOk now set ts sl) (x : Int) :
    x ∈ (dueOf (now + 1) ts (sl.getD ((now + 1) % 64).toNat [])).map (·.1) ↔ ∃ t ∈ ts, t.1 = x ∧ t.2.1 = now + 1 := by
  rw [List.mem_map]
  constructor
  · rintro ⟨t, ht, rfl⟩
    obtain ⟨_, h2, h3⟩ := mem_dueOf.1 ht
    exact ⟨t, tlook_some h2, rfl, h3⟩
  · rintro ⟨t, ht, rfl, h3⟩
    exact ⟨t, mem_dueOf.2 ⟨(h.both _ (slot_lt _) _).2 ⟨t, ht, rfl, by rw [h3]⟩, tlook_mem h.nodup ht, h3⟩, rfl⟩

theorem due1_look (n1 : Int) (hn : 0 < n1) (id : Int) (ts : List Tim) : ∃ x y z, (look id (ts.map tv)).getD (.agg #[.int .i64 0, .int .i64 0, .int .i64 0]) = .agg #[.int .i64 x, .int .i64 y, .int .i64 z] ∧
    (y = n1 → dueOf n1 ts [id] = [(x, y, z)] ∧ (x, y, z) ∈ ts) ∧ (y ≠ n1 → dueOf n1 ts [id] = []) := by
  rw [look_tv]
  cases hl : tlook id ts with
  | none => exact ⟨0, 0, 0, rfl, fun e => by omega, fun _ => by simp [dueOf, hl]⟩
  | some p =>
    obtain ⟨p1, p2⟩ := p
    exact ⟨id, p1, p2, rfl, fun e => ⟨by simp [dueOf, hl, e], tlook_some hl⟩, fun e => by simp [dueOf, hl, e]⟩

theorem dueOf_len (n1 : Int) (ts : List Tim) : ∀ l, (dueOf n1 ts l).length ≤ l.length
  | [] => Nat.le_refl _
  | id :: r => by
    have := dueOf_len n1 ts r
    simp only [dueOf]
    split
    · split
      · simp only [List.length_cons]; omega
      · simp only [List.length_cons]; omega
    · simp only [List.length_cons]; omega
theorem RT.kept {F : Nat → Prop} {w w1 : World} {v : Value} {L : List TB} (h : RT w v L) (k : Kept F w w1) (hv : ∀ b, v.ownBlock = some b → ¬ F b) : RT w1 v L := by
  refine ⟨h.1, ?_⟩
  rcases h.2 with hn | ⟨g, cap, cur, rfl, hb, hg, rest⟩
  · exact .inl hn
  · refine .inr ⟨g, cap, cur, rfl, hb, ?_, rest⟩
    rw [k.block g (Array.getElem?_eq_some_iff.1 hg).1 (hv g rfl)]
    exact hg

theorem cells_new (w : World) (t : TypeId) (l : List Value) : ∀ j u, l[j]? = some u → (w.alloc (.cells l.toArray t)).cell? ((⟨w.heap.size, 0, none⟩ : Addr).add j) = some u := by
  intro j u h
  rw [Addr.add_lit, Nat.zero_add, Blk.cell (Blk.new w t l.toArray) j]
  simpa using h
theorem ints_one (l : List Int) : ∀ u ∈ l.map (Value.int .i64), u.oneCell' = true := by
  intro u hu
  obtain ⟨x, _, rfl⟩ := List.mem_map.1 hu
  rfl

/-- The first loop of Tick, at its head. -/
def Tick1 (w1 : World) (n1 : Int) (ts : List Tim) (xs : List Int) (dv i : Value) (wr : World) : Prop :=
  ∃ (k : Nat) (L : List TB), k ≤ xs.length ∧ i = .int .i64 k ∧ Kept (fun _ => False) w1 wr ∧ RT wr dv L ∧ (∀ q, dv.ownBlock = some q → w1.heap.size ≤ q) ∧ L.map (·.1) = dueOf n1 ts (xs.take k)

def nums (L : List TB) : List Int := L.map (·.1.1)
@[simp] theorem nums_len (L : List TB) : (nums L).length = L.length := List.length_map ..

/-- The second. -/
def Tick2 (w1 : World) (b : Nat) (now set : Int) (ts : List Tim) (F : Nat → Prop) (mb : Nat) (dv : Value) (L : List TB) (lv i : Value) (wr : World) : Prop :=
  ∃ (k : Nat) (sl : List (List Int)) (sv : List Value), k ≤ L.length ∧ i = .int .i64 k ∧ WheelAt wr b (now + 1) set (tdels ((nums L).take k) ts) sl F mb sv ∧ WOk now set (tdels ((nums L).take k) ts) sl ∧
    Kept F w1 wr ∧ RT wr dv L ∧ RI 3 wr lv ((nums L).take k) ∧ (∀ q, lv.ownBlock = some q → w1.heap.size ≤ q)

def Ticked (w : World) (b : Nat) (now set : Int) (ts : List Tim) (F : Nat → Prop) (mb : Nat) (e : Ending) (w' : World) : Prop :=
  ∃ (v : Value) (l : List Int) (sl : List (List Int)) (sv : List Value), e = .returned v ∧ RI 3 w' v l ∧ (∀ q, v.ownBlock = some q → w.heap.size ≤ q) ∧ l.Nodup ∧ (∀ x, x ∈ l ↔ ∃ t ∈ ts, t.1 = x ∧ t.2.1 = now + 1) ∧
    WheelAt w' b (now + 1) set (tdels l ts) sl F mb sv ∧ WOk (now + 1) set (tdels l ts) sl ∧ Kept F w w'

set_option maxHeartbeats 1000000 in
set_option maxRecDepth 20000 in
theorem wheel_Tick {w : World} {b mb : Nat} {now set : Int} {ts : List Tim} {sl : List (List Int)} {F : Nat → Prop} {sv : List Value} (h : WheelAt w b now set ts sl F mb sv) (ok : WOk now set ts sl)
    (hN : now ≤ 1152921504606846976) (hS : set ≤ 1152921504606846976) :
    Calls Try.prog 45 #[.pointer (some ⟨b, 0, none⟩)] w (Ticked w b now set ts F mb) := by
  have c1 := h.blk.c1
  have f1 := h.blk.fz 1
  have n0 := ok.now0
  have hslt := slot_lt (now + 1)
  have h1 : WheelAt (w.setCell ⟨b, 1, none⟩ (.int .i64 (now + 1))) b (now + 1) set ts sl F mb sv :=
    ⟨h.blk.set1 _, h.map.kept (F := fun k => k = b) ((Kept.refl _ _).put _) (h.map.ne_blk h.blk.2), fun s hs => (h.row s hs).kept (F := fun k => k = b) ((Kept.refl _ _).put _) (fun k hk e => (h.row s hs).ne_blk h.blk.2 (by decide) (by rw [hk, e])), h.apart, h.fb, h.fm, h.fs, fun k hk => by simpa [World.setCell] using h.lt k hk⟩
  have k1 : Kept F w (w.setCell ⟨b, 1, none⟩ (.int .i64 (now + 1))) := (Kept.refl _ _).setCell (fun _ => h.fb) _
  obtain ⟨ao, cap, hrv, hao⟩ : ∃ ao cap, sv.getD ((now + 1) % 64).toNat undef = .slice ao (sl.getD ((now + 1) % 64).toNat []).length cap ∧ (0 < (sl.getD ((now + 1) % 64).toNat []).length → ∃ g, ao = some ⟨g, 0, none⟩) := by
    rcases (h.row _ hslt).form with ⟨e, e2⟩ | ⟨g, cap, cur, e, _⟩
    · rw [e2]; exact ⟨none, 0, e, fun h => by simp at h⟩
    · exact ⟨_, cap, e, fun _ => ⟨g, rfl⟩⟩
  have hlen := ok.short hslt
  have hsl := h1.blk.slot _ hslt
  rw [hrv] at hsl
  have c1' := h1.blk.c1
  have hb : b < w.heap.size := h.lt _ h.fb
  obtain ⟨xs, hxs⟩ : ∃ xs, sl.getD ((now + 1) % 64).toNat [] = xs := ⟨_, rfl⟩
  have HX := Lib.hid hxs
  rw [hxs] at hrv hao hlen hsl
  clear hxs
  generalize hW1 : w.setCell ⟨b, 1, none⟩ (.int .i64 (now + 1)) = w1 at h1 k1 hsl c1'
  have H := Lib.hid h
  have OK := Lib.hid ok
  have H1 := Lib.hid h1
  have K1 := Lib.hid k1
  have HRV := Lib.hid hrv
  have HAO := Lib.hid hao
  clear h ok h1 k1 hrv hao
  have hm0 : 0 ≤ (now + 1) % 64 ∧ (now + 1) % 64 < 64 := by omega
  go_enter Try.func45, Try.ntmps45
  go_wp2_with (go_at_call 39; refine (wheel_none H.out.blk).mono ?_; rintro e w' ⟨rfl, rfl⟩)
  go_quiet (fail)
  go_wp2_with fail
  go_loopw [3, 30] (Tick1 w1 (now + 1) ts xs) (fun _ i _ => xs.length - (intOf i).toNat)
  case atStart => exact ⟨0, [], Nat.zero_le _, rfl, (Kept.refl _ _).drewN _, World.ownsRow_nil _ _ _ _, by simp [Value.ownBlock], rfl⟩
  obtain ⟨k, L, hk, rfl, hkept, hrt, hfresh, hL⟩ := hrel
  have hw := H1.out.kept hkept (fun _ _ x => x)
  rcases Nat.lt_or_ge k xs.length with hlt | hge
  · obtain ⟨g, rfl⟩ := HAO.out (by omega)
    have hri := hw.row _ hslt
    rw [HRV.out, HX.out] at hri
    have hcell := hri.cell rfl k hlt
    have c67 := hw.blk.c67
    have d1 := hw.blk.c1
    have hbr : b < wr.heap.size := hw.lt _ hw.fb
    obtain ⟨id, hid⟩ : ∃ id, xs.getD k 0 = id := ⟨_, rfl⟩
    rw [hid] at hcell
    have HID := Lib.hid hid
    clear hid
    obtain ⟨x, y, z, hxyz, hy1, hy2⟩ := due1_look (now + 1) (by omega) id ts
    have hrun := run_look keyI Try.underlying77 Try.underlying3 wheel_zero hw.map id false
    rw [hxyz] at hrun
    simp only [encI, if_false, Bool.false_eq_true] at hrun
    have HY1 := Lib.hid hy1
    have HY2 := Lib.hid hy2
    have HL := Lib.hid hL
    have HW := Lib.hid hw
    have HK := Lib.hid hkept
    have HF := Lib.hid hfresh
    have hri2 := Lib.hid hri
    clear hy1 hy2 hL hw hkept hfresh hri hxyz hsl c1' c1 f1 hW1
    go_wp2_with fail
    go_quiet (fail)
    have kw5 : Kept (fun _ => False) wr ((wr.alloc (.cells #[.int .i64 x, .int .i64 y, .int .i64 z] 82)).drewN nq) := ((Kept.refl _ _).alloc _).drewN _
    have b5 : Blk ((wr.alloc (.cells #[.int .i64 x, .int .i64 y, .int .i64 z] 82)).drewN nq) wr.heap.size 82 #[.int .i64 x, .int .i64 y, .int .i64 z] := (Blk.new _ _ _).drewN _
    generalize (wr.alloc (.cells #[.int .i64 x, .int .i64 y, .int .i64 z] 82)).drewN nq = w5 at kw5 b5 ⊢
    have t0 : w5.cell? ⟨wr.heap.size, 0, none⟩ = some (.int .i64 x) := (Blk.cell b5 0).trans rfl
    have t1 : w5.cell? ⟨wr.heap.size, 1, none⟩ = some (.int .i64 y) := (Blk.cell b5 1).trans rfl
    have t2 : w5.cell? ⟨wr.heap.size, 2, none⟩ = some (.int .i64 z) := (Blk.cell b5 2).trans rfl
    have KW5 := Lib.hid kw5
    clear hrun c67 d1 hcell b5 kw5
    by_cases hy : y = now + 1
    · have hyb : (y == now + 1) = true := by simpa using hy
      have HY := Lib.hid hy
      obtain ⟨hd, hmem⟩ := HY1.out hy
      have htm := OK.out.timer _ hmem
      have hz0 : 0 ≤ z ∧ z < 4611686018427387904 := by
        have h1 : 0 ≤ z := htm.2.2.2.2.1
        have h2 : z < set := htm.2.2.2.2.2
        omega
      have HD := Lib.hid hd
      clear hy hd hmem htm
      have hrt5 : RT (w5.alloc (.cells #[.int .i64 x, .int .i64 y, .int .i64 z] 82)) u3 L := RT.kept hrt (KW5.out.alloc _) (fun _ _ x => x)
      have N := Lib.hid (Blk.new w5 82 #[.int .i64 x, .int .i64 y, .int .i64 z])
      have hLl : L.length ≤ 1000 := by
        have := congrArg List.length HL.out
        have h2 := dueOf_len (now + 1) ts (xs.take k)
        simp at this h2
        omega
      obtain ⟨i0', hi, hz0', hz1, hz2⟩ := info_parts (P := Try.prog) (e := 82) (z := .agg #[.int .i64 0, .int .i64 0, .int .i64 0]) (size := 3) (bytes := 24) (by kernel_rfl)
      go_wp2_with (at_builtin; refine wpList_push _ rfl _ _ 98 rfl 82 i0' (.agg #[.int .i64 0, .int .i64 0, .int .i64 0]) 3 24 Try.underlying98 hi hz0' hz1 hz2 rfl (by decide) _ L.length (L.flatMap TB.enc) rfl hrt5 ⟨w5.heap.size, 0, none⟩ 1 1 [.int .i64 x, .int .i64 y, .int .i64 z] rfl rfl ?c1 ?c2 ?c3 ?c4 ?c5)
      case c1 => exact cells_new w5 _ [.int .i64 x, .int .i64 y, .int .i64 z]
      case c2 => exact ints_one [x, y, z]
      case c3 => unfold maxLen; omega
      case c4 => omega
      case c5 =>
        intro v' w6 hp
        have rel : Tick1 w1 (now + 1) ts xs v' (.int .i64 ((k : Int) + 1)) w6 := by
          refine ⟨k + 1, L ++ [⟨(x, y, z), hz0⟩], hlt, by simp, ?_, ?_, fun q hq => ?_, ?_⟩
          · have k56 : Kept (fun q => u3.ownBlock = some q) w5 w6 := ((Kept.refl _ _).alloc _).trans ((Kept.refl _ _).grown hp.grown (fun k hk _ => hk))
            exact (HK.out.trans KW5.out).trans' k56 (fun q hq e => by have := HF.out q e; omega)
          · have := hp.own
            unfold RT
            rw [List.length_append, List.flatMap_append]
            exact this
          · rcases hp.where_ q hq with h | h
            · exact HF.out q h
            · have h1 := HK.out.size
              have h2 := KW5.out.size
              simp at h
              omega
          · rw [List.map_append, HL.out, dueOf_take _ _ _ _ hlt, HID.out, HD.out]
            rfl
        have HR := Lib.hid rel
        clear hp rel
        go_wp2_with fail
        go_roundw
        case rel => exact HR.out
        case measure => simp [intOf]; omega
    · have hyb : (y == now + 1) = false := by simpa using hy
      have hd := HY2.out hy
      have rel : Tick1 w1 (now + 1) ts xs u3 (.int .i64 ((k : Int) + 1)) w5 := by
        refine ⟨k + 1, L, hlt, by simp, HK.out.trans KW5.out, RT.kept hrt KW5.out (fun _ _ x => x), HF.out, ?_⟩
        rw [dueOf_take _ _ _ _ hlt, HID.out, hd, HL.out, List.append_nil]
      have HR := Lib.hid rel
      clear hy hd rel
      go_wp2_with fail
      go_roundw
      case rel => exact HR.out
      case measure => simp [intOf]; omega
  · obtain rfl : k = xs.length := by omega
    rw [List.take_length] at hL
    have hLl : L.length ≤ 1000 := by
      have h1 := congrArg List.length hL
      have h2 := dueOf_len (now + 1) ts xs
      simp at h1
      omega
    obtain ⟨ao', cap', rfl, hao'⟩ : ∃ ao cap, u3 = .slice ao L.length cap ∧ (0 < L.length → ∃ g, ao = some ⟨g, 0, none⟩) := by
      rcases hrt.2 with ⟨e, e2⟩ | ⟨g, cap, cur, e, _⟩
      · rw [e2]; exact ⟨none, 0, e, fun h => by simp at h⟩
      · exact ⟨_, cap, e, fun _ => ⟨g, rfl⟩⟩
    go_wp2_with fail
    refine (tick_sort hrt hLl).mono ?_
    rintro e w3 ⟨rfl, L', hperm, hrt3, hk3⟩
    have k13 : Kept (fun _ => False) w1 w3 := hkept.trans' hk3 (fun q hq e => by have := hfresh q e; omega)
    have hl' : L'.length = L.length := hperm.length_eq
    have hpm : (nums L').Perm ((dueOf (now + 1) ts xs).map (·.1)) := by
      rw [← hL, List.map_map]
      exact hperm.map (·.1.1)
    have hnd : (nums L').Nodup := hpm.nodup_iff.2 (nodup_dueOf (by rw [← HX.out]; exact OK.out.rows _ hslt))
    have hmm : ∀ x, x ∈ nums L' ↔ ∃ t ∈ ts, t.1 = x ∧ t.2.1 = now + 1 := fun x => by
      rw [hpm.mem_iff, ← HX.out]
      exact OK.out.due x
    have HT0 := Lib.hid (show Tick2 w1 b now set ts F mb (.slice ao' L.length cap') L' (.slice none 0 0) (.int .i64 0) w3 from
      ⟨0, sl, sv, Nat.zero_le _, rfl, H1.out.kept k13 (fun _ _ x => x), OK.out, k13.mono (fun _ _ x => x.elim), hrt3, RI.nil _, by simp [Value.ownBlock]⟩)
    have HF := Lib.hid hfresh
    have HAO' := Lib.hid hao'
    have HND := Lib.hid hnd
    have HMM := Lib.hid hmm
    have HL' := Lib.hid hl'
    clear hfresh hao' hnd hmm hrt3 hk3 hpm hperm hL hrt hkept hw hk hsl c1' c1 f1 hW1 hl'
    go_wp2_with fail
    go_loopw [7, 56] (Tick2 w1 b now set ts F mb (.slice ao' L.length cap') L') (fun _ i _ => L'.length - (intOf i).toNat)
    case atStart => exact HT0.out
    obtain ⟨k, sl2, sv2, hk, rfl, hw2, ok2, hkk, hrt2, hri2, hfr2⟩ := hrel
    have hl' := HL'.out
    rcases Nat.lt_or_ge k L'.length with hlt | hge
    · obtain ⟨g, rfl⟩ := HAO'.out (by omega)
      obtain ⟨e0, e1, e2⟩ := RT.cell (by rw [hl']; exact hrt2) k hlt
      obtain ⟨x, hx⟩ : ∃ x, L'[k]!.1.1 = x := ⟨_, rfl⟩
      obtain ⟨y, hy⟩ : ∃ x, L'[k]!.1.2.1 = x := ⟨_, rfl⟩
      obtain ⟨z, hz⟩ : ∃ x, L'[k]!.1.2.2 = x := ⟨_, rfl⟩
      rw [hx] at e0
      rw [hy] at e1
      rw [hz] at e2
      have HXX := Lib.hid hx
      have H2 := Lib.hid hw2
      have O2 := Lib.hid ok2
      have KK := Lib.hid hkk
      have HR2 := Lib.hid hrt2
      have HI2 := Lib.hid hri2
      have HFR := Lib.hid hfr2
      clear hx hy hz hw2 ok2 hkk hrt2 hri2 hfr2
      have hgt : k < L.length := by omega
      clear hl'
      go_wp2_with fail
      have k4 : Kept (fun _ => False) wr (wr.alloc (.cells #[.int .i64 x, .int .i64 y, .int .i64 z] 82)) := (Kept.refl _ _).alloc _
      have bt : Blk (wr.alloc (.cells #[.int .i64 x, .int .i64 y, .int .i64 z] 82)) wr.heap.size 82 #[.int .i64 x, .int .i64 y, .int .i64 z] := Blk.new _ _ _
      refine (wheel_Cancel (H2.out.kept k4 (fun _ _ x => x)) O2.out hN x).mono ?_
      rintro e w6 ⟨⟨vv, rfl⟩, sv3, sl3, hw6, ok6, hk6⟩
      have hFlt : ∀ q, F q → q < w1.heap.size := fun q hq => H1.out.lt q hq
      have k06 : Kept F wr w6 := (k4.mono (fun _ _ x => x.elim)).trans hk6
      have bt6 := bt.kept hk6 (fun e => by have := hFlt _ e; have := KK.out.size; omega)
      have t0 : w6.cell? ⟨wr.heap.size, 0, none⟩ = some (.int .i64 x) := (Blk.cell bt6 0).trans rfl
      have hri6 := HI2.out.kept k06 (fun q hq e => by have := HFR.out q hq; have := hFlt q e; omega)
      have hrt6 := RT.kept HR2.out k06 (fun q hq e => by have := HF.out q hq; have := hFlt q e; omega)
      have W6 := Lib.hid hw6
      have O6 := Lib.hid ok6
      have K6 := Lib.hid k06
      have R6 := Lib.hid hrt6
      have hri7 : RI 3 (w6.alloc (.cells #[.int .i64 x] 3)) u7 ((nums L').take k) := hri6.kept (F := fun _ => False) ((Kept.refl _ _).alloc _) (fun _ _ x => x)
      have hll : (List.take k (nums L')).length = k := by simp; omega
      have HRI7 := Lib.hid hri7
      have HLL := Lib.hid hll
      clear bt bt6 k4 hw6 ok6 hk6 k06 hrt6 hri6 e0 e1 e2 hri7 hll hFlt
      obtain ⟨i0', hi, hz0', hz1, hz2⟩ := info_parts (P := Try.prog) (e := 3) (z := .int .i64 0) (size := 1) (bytes := 8) (by kernel_rfl)
      go_wp2_with (at_builtin; refine wpList_push _ rfl _ _ 71 rfl 3 i0' (.int .i64 0) 1 8 Try.underlying71 hi hz0' hz1 hz2 rfl (by decide) _ ((nums L').take k).length (((nums L').take k).map (Value.int .i64)) rfl HRI7.out ⟨w6.heap.size, 0, none⟩ 1 1 [.int .i64 x] rfl rfl ?c1 ?c2 ?c3 ?c4 ?c5)
      case c1 => exact cells_new w6 _ [.int .i64 x]
      case c2 => exact ints_one [x]
      case c3 => rw [HLL.out]; unfold maxLen; omega
      case c4 => rw [HLL.out]; omega
      case c5 =>
        intro v' w7 hp
        have hgx : (nums L').getD k 0 = x := by
          rw [← HXX.out]
          simp [nums, hlt]
        have rel : Tick2 w1 b now set ts F mb (.slice (some ⟨g, 0, none⟩) L.length cap') L' v' (.int .i64 ((k : Int) + 1)) w7 := by
          have k67 : Kept (fun q => u7.ownBlock = some q) w6 w7 := ((Kept.refl _ _).alloc _).trans ((Kept.refl _ _).grown hp.grown (fun k hk _ => hk))
          have hw7 := W6.out.kept k67 (fun q hq e => by have := H1.out.lt q hq; have := HFR.out q e; omega)
          have hne : ∀ q, u7.ownBlock = some q → (Value.slice (some ⟨g, 0, none⟩) L.length cap').ownBlock ≠ some q := by
            intro q hq e
            have hgb : g = q := by simpa [Value.ownBlock] using e
            subst hgb
            rcases HR2.out.2 with ⟨e, _⟩ | ⟨g', cap'', cur, e, _, hg', _⟩
            · cases e
            · have : g' = g := by have := e; simp at this; exact this.1.symm
              subst this
              exact HI2.out.ne_blk (t := 82) hg' (by decide) hq
          have htk : (nums L').take (k + 1) = (nums L').take k ++ [x] := by
            rw [List.take_succ_eq_append_getElem (by simp; omega)]
            rw [List.getD_eq_getElem?_getD, List.getElem?_eq_getElem (by simp; omega)] at hgx
            simp only [Option.getD_some] at hgx
            rw [hgx]
          refine ⟨k + 1, sl3, sv3, hlt, by simp, ?_, ?_, ?_, RT.kept R6.out k67 (fun q hq e => hne q e hq), ?_, fun q hq => ?_⟩
          · rw [tdels_take _ _ (by simp; omega), hgx]; exact hw7
          · rw [tdels_take _ _ (by simp; omega), hgx]; exact O6.out
          · exact (KK.out.trans K6.out).trans' k67 (fun q hq e => by have := HFR.out q e; omega)
          · rw [htk]
            have := hp.own
            unfold RI
            rw [List.length_append, List.map_append, HLL.out, List.map_take]
            exact this
          · rcases hp.where_ q hq with h | h
            · exact HFR.out q h
            · have h1 := KK.out.size
              have h2 := K6.out.size
              simp at h
              omega
        have HR := Lib.hid rel
        clear hp rel hgx
        go_wp2_with fail
        go_roundw
        case rel => exact HR.out
        case measure => simp [intOf]; omega
    · obtain rfl : k = L'.length := by omega
      have hti : (nums L').take L'.length = nums L' := List.take_of_length_le (by simp)
      rw [hti] at hw2 ok2 hri2
      have HT : Ticked w b now set ts F mb (.returned u7) wr := by
        have kw : Kept F w wr := K1.out.trans hkk
        exact ⟨u7, _, sl2, sv2, rfl, hri2, fun q hq => Nat.le_trans K1.out.size (hfr2 q hq), HND.out, HMM.out, hw2, WOk.ticked OK.out HMM.out rfl ok2, kw⟩
      have HTT := Lib.hid HT
      clear HT hw2 ok2 hri2 hkk hrt2 hti hfr2
      have hcast : ((L'.length : Nat) : Int) = (L.length : Nat) := by rw [hl']
      go_wp2_with fail
      go_ret
      exact HTT.out
end Go.Proofs.Ytchgieogdinglaa
