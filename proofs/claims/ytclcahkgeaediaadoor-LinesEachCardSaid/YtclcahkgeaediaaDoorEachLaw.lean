/- LinesEach holds: any text's lines, unfolded, with their numbers, as far as one likes, are as the document has them. The row lists Go's own tables of UTF-8, tied to the program's text by the card. -/
import Derived.Test.YtclcahkgeaediaaDoorCard
import Derived.Test.YtclcahkgeaediaaDoorEachW2
import Derived.Test.YtclcahkgeaediaaDoorNumb
import Derived.Test.YtclcahkgeaediaaDoorLin3
import Derived.PinnedBridge
import Derived.SevenTiedAt
namespace Go.Proofs.YtclcahkgeaediaaDoor
open Go.ChangeShapes Go.WideShapes Go.ChangeAt Go.RowKit Go.Shelf Lift
open Go.ChangeMaps (open_string shut_string)
set_option linter.unusedSimpArgs false
set_option linter.unusedVariables false
attribute [local go_sem] Oper.semAt_some

theorem chop_len (t : List UInt8) : (chop t).length ≤ t.length := by unfold chop; split <;> simp
theorem linesB_len : ∀ (s t : List UInt8), (linesB t s).length ≤ s.length + 1 ∧ sumB (linesB t s) ≤ t.length + s.length
  | [], t => by rw [linesB_nil]; split <;> simp [sumB, toB, ByteArray.size]
  | c :: r, t => by
    rw [linesB_cons]
    split
    · have ⟨h1, h2⟩ := linesB_len r []
      have h3 := chop_len t
      simp [sumB, toB, ByteArray.size] at *; omega
    · have ⟨h1, h2⟩ := linesB_len r (t ++ [c])
      simp [sumB] at *; omega

theorem int_get {S : Nat → Prop} {w : World} {ao : Option Addr} {l : List Int} (h : SlAt (Rd.int .i64) S w ao l) {k : Nat} {c : Int} (hk : l[k]? = some c) : ∃ b off, ao = some ⟨b, off, none⟩ ∧ S b ∧ b < w.heap.size ∧ w.cell? ⟨b, off + k, none⟩ = some (.int .i64 c) := by
  obtain ⟨b, off, cs, rfl, hS, hlt, ⟨rfl, _⟩, hc⟩ := h.get hk
  exact ⟨b, off, rfl, hS, hlt, by have := hc 0 _ rfl; simpa [Rd.int] using this⟩
set_option maxHeartbeats 8000000 in
set_option maxRecDepth 100000 in
theorem each_law_in (n : Nat) (hn : 5 ≤ n) (s : ByteArray) (most : Int) (w : World) (hT : Lib.Utf8Tabs 1 2 w) :
    CallsIn Fence.wide n Tryd.prog 4 #[.string s, .int .i64 most] w (TruePost w) := by
  have h1 : 1 ≤ n := by omega
  by_cases hs : s.size ≤ 2000
  case neg =>
    have hd : decide ((2000:Int) < (s.size : Int)) = true := by simp; omega
    refine callsIn_of_wp_marks Tryd.func4 rfl trivial ?_ rfl
    simp only [Tryd.ntmps4, List.size_toArray, List.length_cons, List.length_nil, Nat.reduceAdd, Nat.reduceSub, Array.replicate_succ, Array.replicate_zero, List.push_toArray, List.append_toArray, List.nil_append, List.cons_append]
    gi_wp2
    exact ⟨.bool true, by simp [results, Tryd.f4, go_sem], rfl, ((Below.refl _ w).alloc (Nat.le_refl _) _).alloc (by simp) _⟩
  have hd : decide ((2000:Int) < (s.size : Int)) = false := by simp; omega
  have HE := Lib.hid (fun w => each_in (n - 1) (by omega) s w (by omega))
  have HS := Lib.hid (fun w => callsIn_wide (n := n - 1).2 (split_ref s w (by omega)))
  obtain ⟨hl1, hl2⟩ := linesB_len s.data.toList []
  have hsz : s.data.toList.length = s.size := by simp
  obtain ⟨l, hl⟩ : ∃ l, linesB [] s.data.toList = l := ⟨_, rfl⟩
  rw [hl] at HE HS hl1 hl2
  simp only [List.length_nil, Nat.zero_add] at hl2
  clear hl
  have HN := Lib.hid (fun ao cap w hl => callsIn_wide (n := n - 1).2 (numbered_ref ao cap l w hl (by omega) (by omega)))
  have hfE : Fence.wide.fn 11 := trivial
  have hfS : Fence.wide.fn 13 := trivial
  have hfN : Fence.wide.fn 12 := trivial
  obtain ⟨mo, hm1, hm2, hm3, hm4⟩ := mod_index most 2001 (by omega) (by omega)
  have hnf : ∀ B w, (binOp BinOp.eql 28 (Value.func (Fn.func 26) #[] #[Value.pointer (some ⟨B, 0, none⟩)]) Value.nilFunc).run Tryd.prog w = .ok (.bool false) w := fun B w => by first | rfl | kernel_rfl
  refine callsIn_of_wp_marks Tryd.func4 rfl trivial ?_ rfl
  simp only [Tryd.ntmps4, List.size_toArray, List.length_cons, List.length_nil, Nat.reduceAdd, Nat.reduceSub, Array.replicate_succ, Array.replicate_zero, List.push_toArray, List.append_toArray, List.nil_append, List.cons_append]
  gi_wp2
  refine (HE.out _).mono ?_
  rintro e w1 ⟨B, ao, cap, rfl, hB1, hB2, hcB, hc1, hc2, hl1', hab, hb1⟩
  gi_wp2
  refine (HS.out _).mono ?_
  rintro e w2 ⟨a2, c2, rfl, hO2, hb2⟩
  gi_wp2
  refine (HN.out _ _ _ hO2.here).mono ?_
  rintro e w3 ⟨an, cn, am, cm, rfl, hN, hM, hb3⟩
  obtain ⟨A, hA0⟩ : ∃ A, (w.alloc (Obj.cells #[Value.int IntKind.i64 most] 3)).alloc (Obj.cells #[Value.bool false] 4) = A := ⟨_, rfl⟩
  have hAs : A.heap.size = w.heap.size + 2 := by subst hA0; simp
  have hAB : Below w.heap.size w A := by subst hA0; exact ((Below.refl _ w).alloc (Nat.le_refl _) _).alloc (by simp) _
  have a0 : A.cell? ⟨w.heap.size, 0, none⟩ = some (.int .i64 most) := by subst hA0; simp [go_sem]
  have a1 : A.frozen? ⟨w.heap.size, 0, none⟩ = false := by subst hA0; simp [go_sem]
  have a2' : A.cell? ⟨w.heap.size + 1, 0, none⟩ = some (.bool false) := by subst hA0; simp [go_sem]
  have a3 : A.frozen? ⟨w.heap.size + 1, 0, none⟩ = false := by subst hA0; simp [go_sem]
  rw [hA0] at hb1 hB1 hab
  clear hA0
  have hAW := chain hb1 (chain hb2 hb3)
  have c0 := (hAW.cell (p := ⟨w.heap.size, 0, none⟩) (by simp; omega)).trans a0
  have f0 := (hAW.frozen (p := ⟨w.heap.size, 0, none⟩) (by simp; omega)).trans a1
  have c1 := (hAW.cell (p := ⟨w.heap.size + 1, 0, none⟩) (by simp; omega)).trans a2'
  have f1 := (hAW.frozen (p := ⟨w.heap.size + 1, 0, none⟩) (by simp; omega)).trans a3
  have hlt3 : w.heap.size + 1 < w3.heap.size := by have := hAW.size; omega
  have hlt3' : w.heap.size < w3.heap.size := by omega
  have hB3 := hAB.trans (hAW.mono (by omega))
  have hm2' : IntKind.u64.wrap 2001 = 2001 := hm2
  have hm3' : (IntKind.u64.wrap most).tmod 2001 = (mo : Int) := hm3
  clear hm2 hm3
  gi_wp2
  obtain ⟨W0, hW0⟩ : ∃ W0, (((w3.setCell ⟨w.heap.size, 0, none⟩ (.int .i64 mo)).alloc (.cells #[.slice an (numb l l.length).length cn] 30)).alloc (.cells #[.slice am (numb l l.length).length cm] 22)).alloc (.cells #[.int .i64 0] 3) = W0 := ⟨_, rfl⟩
  have hW0s : W0.heap.size = w3.heap.size + 3 := by subst hW0; simp
  have hk0 : Kept (fun k => k = w.heap.size) w3 W0 := by subst hW0; exact ((((Kept.refl (fun k => k = w.heap.size) w3).set (p := ⟨w.heap.size, 0, none⟩) rfl).new).new).new
  have hb00 := hB3.setCell (p := ⟨w.heap.size, 0, none⟩) (Nat.le_refl _) (.int .i64 mo)
  have hB0 : Below w.heap.size w W0 := by subst hW0; exact ((hb00.alloc (by simp; omega) _).alloc (by simp; omega) _).alloc (by simp; omega) _
  have hb01 : Below w3.heap.size (w3.setCell ⟨w.heap.size, 0, none⟩ (.int .i64 mo)) W0 := by subst hW0; exact (((Below.refl _ _).alloc (by simp) _).alloc (by simp) _).alloc (by simp; omega) _
  have d0 : W0.cell? ⟨w.heap.size, 0, none⟩ = some (.int .i64 mo) := (hb01.cell (p := ⟨w.heap.size, 0, none⟩) hlt3').trans (World.cell?_setCell_same _ _ _ c0)
  have d1 : W0.cell? ⟨w.heap.size + 1, 0, none⟩ = some (.bool false) := (hk0.cell (p := ⟨w.heap.size + 1, 0, none⟩) (by simpa using hlt3) (by simp)).trans c1
  have d1' : W0.frozen? ⟨w.heap.size + 1, 0, none⟩ = false := (hk0.frozen (p := ⟨w.heap.size + 1, 0, none⟩) (by simpa using hlt3) (by simp)).trans f1
  have d2 : W0.cell? ⟨w3.heap.size, 0, none⟩ = some (.slice an (numb l l.length).length cn) := by subst hW0; simp [go_sem]
  have d3 : W0.cell? ⟨w3.heap.size + 1, 0, none⟩ = some (.slice am (numb l l.length).length cm) := by subst hW0; simp [go_sem]
  have d4 : W0.cell? ⟨w3.heap.size + 1 + 1, 0, none⟩ = some (.int .i64 0) := by subst hW0; simp [go_sem]
  have d5 : W0.frozen? ⟨w3.heap.size + 1 + 1, 0, none⟩ = false := by subst hW0; simp [go_sem]
  rw [hW0]
  clear hW0 hb00 hb01 c0 f0 c1 f1 a0 a1 a2' a3 hlt3' hnf
  have hz1 := hb1.size
  have hz2 := hb2.size
  have hz3 := hb3.size
  have hB13 := chain hb2 hb3
  have hcB0 := (hk0.cell (p := ⟨B, 0, none⟩) (by simp; omega) (by simp; omega)).trans ((hB13.cell (p := ⟨B, 0, none⟩) hB2).trans hcB)
  have hlW : SlAt Rd.str (fun b => A.heap.size ≤ b ∧ b < w1.heap.size) W0 ao l := (((str_block hl1' hab).mono (S' := fun b => A.heap.size ≤ b ∧ b < w1.heap.size) (fun b h1 h2 => ⟨h1, h2⟩)).kept (Kept.of_below hB13 (fun _ => False)) (fun _ _ _ h => h)).kept hk0 (fun b hb _ h => by omega)
  have hlen : l.length ≤ 100000 := by omega
  have hsum : sumB l ≤ 1000000 := by omega
  obtain ⟨N, hNN⟩ : ∃ N, numb l l.length = N := ⟨_, rfl⟩
  obtain ⟨kb, hkb⟩ : ∃ kb, w3.heap.size + 1 + 1 = kb := ⟨_, rfl⟩
  rw [hkb]
  have hst := whole_stops (n - 1) (by omega) B (fun k => k = kb ∨ W0.heap.size ≤ k) ao cap l hlen hsum hc1 hc2 W0 (by omega) (by omega) hcB0 (hlW.mono (fun b hb _ => by omega))
  have hNl := numb_len l l.length
  rw [hNN] at d2 d3 hN hM hst hNl
  rw [hkb] at d4 d5
  have hk1 : Kept (fun k => k < w2.heap.size) w3 W0 := hk0.wide (fun k h1 h2 => by omega)
  clear HE HS HN hB1 hcB hl1' hab hb1 hB2 hO2 hb2 hb3 hAB hAW hB3 hlW hB13 hcB0 hk0
  have hKs : ∀ W, Kept (fun k => k = kb ∨ W0.heap.size ≤ k) W0 W → W.cell? ⟨w.heap.size, 0, none⟩ = some (.int .i64 mo) ∧ W.cell? ⟨w3.heap.size, 0, none⟩ = some (.slice an N.length cn) ∧ W.cell? ⟨w3.heap.size + 1, 0, none⟩ = some (.slice am N.length cm) ∧ W.cell? ⟨w.heap.size + 1, 0, none⟩ = some (.bool false) ∧ W.frozen? ⟨w.heap.size + 1, 0, none⟩ = false ∧ Below w.heap.size w W ∧ W0.heap.size ≤ W.heap.size := fun W hk => by
    refine ⟨(hk.cell (p := ⟨w.heap.size, 0, none⟩) (by simp; omega) (by simp; omega)).trans d0, (hk.cell (p := ⟨w3.heap.size, 0, none⟩) (by simp; omega) (by simp; omega)).trans d2, (hk.cell (p := ⟨w3.heap.size + 1, 0, none⟩) (by simp; omega) (by simp; omega)).trans d3, (hk.cell (p := ⟨w.heap.size + 1, 0, none⟩) (by simp; omega) (by simp; omega)).trans d1, (hk.frozen (p := ⟨w.heap.size + 1, 0, none⟩) (by simp; omega) (by simp; omega)).trans d1', hB0.trans (hk.below (by omega) (fun k h => by omega)), hk.size⟩
  have hKn : ∀ W, Kept (fun k => k = kb ∨ W0.heap.size ≤ k) W0 W → SlAt (Rd.int .i64) (· < W.heap.size) W an (N.map fun x => ((x.1 : Nat) : Int)) ∧ SlAt Rd.str (· < W.heap.size) W am (N.map (·.2)) := fun W hk => by
    have h := hk1.trans (hk.wide (Y := fun k => k = kb ∨ W0.heap.size ≤ k) (fun _ _ h => h)) (Z := fun k => k < w2.heap.size ∨ w3.heap.size ≤ k) (fun k _ h => by omega) (fun k _ h => by omega)
    have h' := h.wide (Y := fun k => k < w2.heap.size) (fun k h1 h2 => by omega)
    exact ⟨(hN.low int_flat2 h').here, (hM.low str_flat h').here⟩
  have HW0s := Lib.hid hW0s
  have hkb0 : kb < W0.heap.size := by omega
  have hsw0 : w.heap.size + 1 < W0.heap.size := by omega
  clear hW0s hkb
  refine wpIn_rangeFunc_ownH (F := Fence.wide) rfl h1 (gf := 26) (lb := #[.pointer (some ⟨B, 0, none⟩)]) rfl trivial (enters_of Tryd.func26 (by kernel_rfl) rfl)
    hst kept_t (fun W k o o' hk _ _ _ => kept_put W k o' (.inr hk)) (Below.refl _ _) (fun _ => rfl)
    (fun pre W => Kept (fun k => k = kb ∨ W0.heap.size ≤ k) W0 W ∧ W.cell? ⟨kb, 0, none⟩ = some (.int .i64 (pre.length : Int)) ∧ W.frozen? ⟨kb, 0, none⟩ = false ∧ pre.length ≤ mo)
    (fun c pre W => (c = .ret ∧ ∃ pre0 x, pre = pre0 ++ [x] ∧ ¬ N[pre0.length]? = some x) ∨ (c = .exit 0 ∧ pre.length = mo + 1 ∧ Kept (fun k => k = kb ∨ W0.heap.size ≤ k) W0 W ∧ W.cell? ⟨kb, 0, none⟩ = some (.int .i64 (mo : Int))))
    ?inv ?invx
    ⟨Kept.refl _ _, d4, d5, by simp⟩
    (fun x a' W => a' = { tmps := #[.string s, .int .i64 most, undef, .pointer (some ⟨w.heap.size, 0, none⟩), .pointer (some ⟨w.heap.size + 1, 0, none⟩), .func (.func 26) #[] #[.pointer (some ⟨B, 0, none⟩)], .pointer (some ⟨w3.heap.size, 0, none⟩), .pointer (some ⟨w3.heap.size + 1, 0, none⟩), .pointer (some ⟨kb, 0, none⟩), .int .i64 x.1, .string x.2, .string s, .int .i64 s.size, .bool false, .string s, .func (.func 26) #[] #[.pointer (some ⟨B, 0, none⟩)], .func (.func 26) #[] #[.pointer (some ⟨B, 0, none⟩)], .bool false, .tuple #[.slice an N.length cn, .slice am N.length cm], .string s, .slice a2 l.length c2, .tuple #[.slice an N.length cn, .slice am N.length cm], .slice an N.length cn, .slice am N.length cm, .int .i64 most, .int .u64 (IntKind.u64.wrap most), .int .u64 mo, .int .i64 mo, .func (.func 26) #[] #[.pointer (some ⟨B, 0, none⟩)], .int .i64 x.1, .string x.2, undef, undef, undef, undef, undef, undef, undef, undef, undef, undef, undef, undef, undef, undef, undef, undef, undef, undef, undef, undef, undef, undef, undef, undef, undef, undef, undef, undef, undef, undef, undef, undef, undef, undef, undef, undef, undef, undef, undef, undef], defers := [] })
    (fun x a' => fun _ _ _ _ h _ _ => h) ?assign ?body ?done ?stop
  case inv =>
    rintro pre W W' row ⟨hk, e1, e2, h3⟩ hg hr
    have hr2 : ∀ k, row = some k → ∃ o : Obj, W.heap[k]? = some o ∧ o.isCells = false := fun k e => (hr k e).2
    exact ⟨kept_t hk ((Kept.of_grown hg).wide (fun k _ e => .inr ((hr k e.symm).1))), cell_kept e1 hg hr2, (frozen_kept e1 hg hr2).trans e2, h3⟩
  case invx =>
    rintro c pre W W' row (h | ⟨h1, h2, hk, e1⟩) hg hr
    · exact .inl h
    · have hr2 : ∀ k, row = some k → ∃ o : Obj, W.heap[k]? = some o ∧ o.isCells = false := fun k e => (hr k e).2
      exact .inr ⟨h1, h2, kept_t hk ((Kept.of_grown hg).wide (fun k _ e => .inr ((hr k e.symm).1))), cell_kept e1 hg hr2⟩
  case assign =>
    rintro lp pre x W K hI hK
    simp only [encNL]
    gi_wp2
    exact hK _ _ ((KeepsOthers.refl _).from _) (Kept.refl _ _) hI rfl
  case body =>
    rintro lp pre x a' W hlp hr ⟨hk, e1, e2, h3⟩ rfl hlen'
    obtain ⟨k0, k2, k3, k1, k1f, kB, kz⟩ := hKs W hk
    obtain ⟨n1, n2⟩ := hKn W hk
    have hkW : kb < W.heap.size := by omega
    have hk1W : w.heap.size + 1 < W.heap.size := by omega
    obtain ⟨x1, x2⟩ := x
    obtain ⟨m, hm⟩ : ∃ m, pre.length = m := ⟨_, rfl⟩
    rw [hm] at e1 h3 hlen'
    clear hr hKs hKn hst hN hM d0 d1 d1' d2 d3 d4 d5 hk1
    by_cases hkm : m = mo
    · subst hkm
      gi_wp2
      exact ⟨(KeepsOthers.refl _).from _, .inr ⟨rfl, by simp; omega, hk, e1⟩⟩
    · have hkm' : ¬ (m : Int) = (mo : Int) := by omega
      by_cases hkN : m < N.length
      · have hkN' : ¬ ((N.length : Int) ≤ (m : Int)) := by omega
        have hkN'' : (m : Int) < (N.length : Int) := by omega
        obtain ⟨⟨y1, y2⟩, hy⟩ := some_at hkN
        obtain ⟨ba, oa, rfl, _, hba, ya⟩ := int_get n1 (k := m) (c := (y1 : Int)) (by simp [hy])
        obtain ⟨bs, os, rfl, _, hbs, hys, ys⟩ := str_get n2 (k := m) (c := y2) (by simp [hy])
        clear n1 n2
        by_cases hx1 : x1 = y1
        · subst hx1
          by_cases hx2 : x2 = y2
          · subst hx2
            gi_wp2
            refine ⟨(KeepsOthers.setCell _ _ _).from _, Kept.setCell (X := fun k => k = kb ∨ W0.heap.size ≤ k) W (p := ⟨kb, 0, none⟩) (.inl rfl) _, kept_t hk (Kept.setCell (X := fun k => k = kb ∨ W0.heap.size ≤ k) W (p := ⟨kb, 0, none⟩) (.inl rfl) _), ?_, by rw [World.frozen?_setCell]; exact e2, by simp; omega⟩
            rw [World.cell?_setCell_same _ _ _ e1, List.length_append, hm]
            rfl
          · have hx2' : (x2.toList == y2.toList) = false := by rw [str_eq]; simpa using hx2
            gi_wp2
            exact ⟨(KeepsOthers.setCell _ _ _).from _, .inl ⟨rfl, pre, _, _, rfl, by rw [hm, hy]; simp; exact fun h => hx2 h.symm⟩⟩
        · have hx1' : ¬ (x1 : Int) = (y1 : Int) := by omega
          gi_wp2
          exact ⟨(KeepsOthers.setCell _ _ _).from _, .inl ⟨rfl, pre, _, _, rfl, by rw [hm, hy]; simp; exact fun h => absurd h.symm hx1⟩⟩
      · have hkN' : ((N.length : Int) ≤ (m : Int)) := by omega
        gi_wp2
        exact ⟨(KeepsOthers.setCell _ _ _).from _, .inl ⟨rfl, pre, _, rfl, by rw [hm, List.getElem?_eq_none (by omega)]; simp⟩⟩
  case done =>
    rintro D ys W hD rfl ⟨hk, e1, e2, h3⟩ hK
    obtain ⟨k0, k2, k3, k1, k1f, kB, kz⟩ := hKs W hk
    have hkW : kb < W.heap.size := by omega
    have hk1W : w.heap.size + 1 < W.heap.size := by omega
    have HW := Lib.hid (callsIn_wide (n := n - 1).2 (works_any W (tabs_below hT kB)))
    have hfW : Fence.wide.fn 14 := trivial
    clear hKs hKn hst hN hM d0 d1 d1' d2 d3 d4 d5 hk1
    have hq : ∀ w, (Builtin.min_ #[3, 3] 3 #[.int .i64 mo, .int .i64 ys.length]).run Tryd.prog w = .ok (.int .i64 ys.length) w := fun w => by
      have e : (if (ys.length : Int) < (mo : Int) then (ys.length : Int) else mo) = ys.length := by split <;> omega
      simp [Builtin.min_, Builtin.min2, go_sem, e]; intro h; omega
    gi_wp2
    refine HW.out.mono ?_
    rintro e w9 ⟨rfl, hb9⟩
    have q1 := (hb9.cell (p := ⟨w.heap.size + 1, 0, none⟩) hk1W).trans k1
    have q2 := (hb9.frozen (p := ⟨w.heap.size + 1, 0, none⟩) hk1W).trans k1f
    have hW9 := hb9.size
    have hk9 : w.heap.size + 1 < w9.heap.size := by omega
    have hK9 := (hb9.block D (Array.getElem?_eq_some_iff.1 hK).1).trans hK
    have hB9 := chain kB hb9
    clear HW hq
    gi_wp2
    have hK4 : (w9.setCell ⟨w.heap.size + 1, 0, none⟩ (.bool true)).heap[D]? = some (.deferred (some [])) := (KeepsOthers.setCell _ _ _).same D _ hK9 rfl
    have g3 : (w9.setCell ⟨w.heap.size + 1, 0, none⟩ (.bool true)).cell? ⟨w.heap.size + 1, 0, none⟩ = some (.bool true) := World.cell?_setCell_same _ _ _ q1
    refine ⟨by simp, .inl ⟨_, _, rfl, run_takeDeferred hK4, ?_⟩⟩
    have c3 := cell_kept g3 (grownBy_putObj' _ D (.deferred none)) (fun r e => by cases e; exact ⟨_, hK4, rfl⟩)
    have hsD : w.heap.size ≤ D := by omega
    have hf : TruePost w (.returned (.bool true)) ((w9.setCell ⟨w.heap.size + 1, 0, none⟩ (.bool true)).putObj D (.deferred none)) := ⟨rfl, (hB9.setCell (by simp) _).trans (belowK_b (w := w) (Nat.le_refl _) _ D _ _ hsD hK4 rfl rfl)⟩
    exact ⟨.bool true, by simp [results, Tryd.f4, go_sem, c3], hf⟩
  case stop =>
    rintro D c pre W hD hpre (⟨rfl, pre0, x, rfl, hx⟩ | ⟨rfl, hl', hk, e1⟩) hK
    · exfalso
      obtain ⟨r, hr⟩ := hpre
      exact hx (by rw [← hr]; simp)
    · have hlN : mo + 1 ≤ N.length := by have := hpre.length_le; omega
      obtain ⟨k0, k2, k3, k1, k1f, kB, kz⟩ := hKs W hk
      have hkW : kb < W.heap.size := by omega
      have hk1W : w.heap.size + 1 < W.heap.size := by omega
      have HW := Lib.hid (callsIn_wide (n := n - 1).2 (works_any W (tabs_below hT kB)))
      have hfW : Fence.wide.fn 14 := trivial
      clear hKs hKn hst hN hM d0 d1 d1' d2 d3 d4 d5 hk1
      have hq : ∀ w, (Builtin.min_ #[3, 3] 3 #[.int .i64 mo, .int .i64 N.length]).run Tryd.prog w = .ok (.int .i64 mo) w := fun w => by
        have e : (if (N.length : Int) < (mo : Int) then (N.length : Int) else mo) = mo := by split <;> omega
        simp [Builtin.min_, Builtin.min2, go_sem, e]; intro h; omega
      gi_wp2
      refine HW.out.mono ?_
      rintro e w9 ⟨rfl, hb9⟩
      have q1 := (hb9.cell (p := ⟨w.heap.size + 1, 0, none⟩) hk1W).trans k1
      have q2 := (hb9.frozen (p := ⟨w.heap.size + 1, 0, none⟩) hk1W).trans k1f
      have hW9 := hb9.size
      have hk9 : w.heap.size + 1 < w9.heap.size := by omega
      have hK9 := (hb9.block D (Array.getElem?_eq_some_iff.1 hK).1).trans hK
      have hB9 := chain kB hb9
      clear HW hq
      gi_wp2
      have hK4 : (w9.setCell ⟨w.heap.size + 1, 0, none⟩ (.bool true)).heap[D]? = some (.deferred (some [])) := (KeepsOthers.setCell _ _ _).same D _ hK9 rfl
      have g3 : (w9.setCell ⟨w.heap.size + 1, 0, none⟩ (.bool true)).cell? ⟨w.heap.size + 1, 0, none⟩ = some (.bool true) := World.cell?_setCell_same _ _ _ q1
      refine ⟨by simp, .inl ⟨_, _, rfl, run_takeDeferred hK4, ?_⟩⟩
      have c3 := cell_kept g3 (grownBy_putObj' _ D (.deferred none)) (fun r e => by cases e; exact ⟨_, hK4, rfl⟩)
      have hsD : w.heap.size ≤ D := by omega
      have hf : TruePost w (.returned (.bool true)) ((w9.setCell ⟨w.heap.size + 1, 0, none⟩ (.bool true)).putObj D (.deferred none)) := ⟨rfl, (hB9.setCell (by simp) _).trans (belowK_b (w := w) (Nat.le_refl _) _ D _ _ hsD hK4 rfl rfl)⟩
      exact ⟨.bool true, by simp [results, Tryd.f4, go_sem, c3], hf⟩
theorem law_each (s : ByteArray) (most : Int) (hwf : (Lit.int .i64 most).wf = true) (w : World) (hT : Lib.Utf8Tabs 1 2 w) : Calls Tryd.prog 4 #[.string s, .int .i64 most] w (TruePost w) := callsIn_wide.1 (each_law_in 5 (by omega) s most w hT)
theorem each_own : ownKnob Tryd.prog.godebug = none := by kernel_rfl
theorem each_laid : laidOutB Tryd.prog = true := by kernel_rfl
/-- A world in which the tables lie as the program's text lays them. -/
def each_first : Obj → Obj
  | .cells _ t frozen => .cells (Lib.firstTab.map (Value.int .u8)).toArray t frozen
  | o => o
def each_acc : Obj → Obj
  | .cells _ t frozen => .cells ((List.range 16).flatMap (fun i => [Value.int .u8 (Lib.accLo i : Int), Value.int .u8 (Lib.accHi i : Int)])).toArray t frozen
  | o => o
noncomputable def each_world (os : Os) : World :=
  { World.holding Tryd.prog os ⟨#[], #[], []⟩ with heap := ((World.holding Tryd.prog os ⟨#[], #[], []⟩).heap.modify 1 each_first).modify 2 each_acc }
theorem each_met (os : Os) : laidMet Tryd.prog Rows.linesEachRow.laid ((each_world os).forCall (fun _ _ => 0) ⟨#[], #[.string ByteArray.empty, .int .i64 0], []⟩).memory :=
  laidMet_of_run' 8 (by kernel_rfl) (by kernel_rfl)
theorem each_reads (os : Os) {H : Type} (enc : TypeId × Value → H) : ∃ places, DataW.whole enc Tryd.prog ((each_world os).forCall (fun _ _ => 0) ⟨#[], #[.string ByteArray.empty, .int .i64 0], []⟩).memory Tryd.f4.params.toList Rows.linesEachSpec.vars false (#[.string ByteArray.empty, .int .i64 0] : Array Value).toList 8 = some ([.lit (.string []), .lit (.int .i64 0)], [], places) :=
  ⟨[], by kernel_rfl⟩

theorem each_tabs {W : World} (h : laidMetH Tryd.prog Rows.linesEachRow.laid W) : Lib.Utf8Tabs 1 2 W := by
  have h' : laidMet Tryd.prog Rows.linesEachRow.laid W := h
  have e1 : (Rows.laid_unicode_utf8_first : DataW Unit) = Lib.firstData := Pinned.utf8First_eq
  have e2 : (Rows.laid_unicode_utf8_acceptRanges (H := Unit)) = Lib.acceptData := by kernel_rfl
  have X : U8Extra Tryd.prog Tryd.lays260_ren := by constructor <;> kernel_rfl
  exact utf8Tabs_of_reads Tryd.lays260 X (Lib.laidMet.reads h' (by rw [← e1]; exact List.mem_cons_of_mem _ (List.mem_cons_self ..))) (Lib.laidMet.reads h' (by rw [← e2]; exact List.mem_cons_self ..))

set_option maxRecDepth 100000 in
theorem each_lifted (os : Os) (started : os.Started) (H : Type) (enc : TypeId × Value → H) (F : Stop.Interp) :
    ReturnsInHanded {} Tryd.checked os 4 .any ((OpenSpec.ofChange Rows.linesEachSpec).preRow enc Tryd.prog Tryd.f4 Rows.linesEachRow.domain false Rows.linesEachRow.laid) (((OpenSpec.ofChange Rows.linesEachSpec).at F).post enc Tryd.prog Tryd.f4 false true false false) := by
  obtain ⟨places, hx⟩ := each_reads os enc
  refine law_carded (C := Tryd.checked) 4 each_own started (by kernel_rfl) Tryd.func4 each_laid rfl (by kernel_rfl) Tryd.underlying4 (by kernel_rfl)
    (fun ds h => by match ds, h with | [_, _], _ => rfl)
    (witness_row_at (enc := enc) (C := Tryd.checked) false (each_world os) #[.string ByteArray.empty, .int .i64 0] rfl (by kernel_rfl) (by kernel_rfl) (by kernel_rfl)
      (OpenSpec.preRow_of_cond 8 hx (by kernel_rfl) (fun k hk => by cases hk) (by kernel_rfl) (each_met os))) ?_
  intro W base args ds p hval0 hA0 hfz hz0 hL hsh
  have hz : ∀ (j : Nat) t d, Tryd.f4.params.toList[j]? = some t → ds[j]? = some d → ∀ n ∈ d.weights Tryd.prog t, n ≤ reachBytes := hz0
  have hval : ∀ (j : Nat) t v, Tryd.f4.params[j]? = some t → args[j]? = some v → Value.okWide Tryd.prog W .any base t v := hval0
  have hA : DataW.TrodAll enc Tryd.prog W 0 (fun _ => true) true Tryd.f4.params.toList args.toList ds p := hA0
  rw [Tryd.params4] at hA hval
  obtain ⟨v0, vs0, d0, ds0, p0, q0, hargs, rfl, rfl, h0, r0⟩ := trodAll_cons hA
  obtain ⟨v1, vs1, d1, ds1, p1, q1, rfl, rfl, rfl, h1, r1⟩ := trodAll_cons r0
  obtain ⟨rfl, rfl, rfl⟩ := trodAll_nil r1
  obtain rfl : args = #[v0, v1] := by cases args; simp_all
  obtain ⟨a0, rfl, _, _, _⟩ := open_string Tryd.underlying9 (hval 0 9 v0 rfl rfl) h0
  obtain ⟨a1, rfl, _, _, w1⟩ := open_int Tryd.underlying3 (hval 1 3 v1 rfl rfl) h1
  exact law_each a0 a1 w1 W (each_tabs hL) 


theorem each_said : Rows.LinesEachSaid :=
  OpenClaim.holds_of_cond 4 Tryd.f4 rfl rfl rfl rfl rfl rfl rfl ⟨rfl, rfl, rfl, rfl, rfl⟩ rfl rfl rfl rfl rfl (by kernel_rfl) Tryd.func4 (by kernel_rfl)
    (of_decide_eq_true (by kernel_rfl)) (by unfold Func.isWrapper; rw [if_neg (of_decide_eq_false (by kernel_rfl))]; exact ⟨rfl, rfl⟩)
    (fun os started H enc _ F => by rw [OpenClaim.pre_eq_preRow]; exact each_lifted os started H enc F)
theorem each_plain (f : FuncId) (fn : Func) (hf : Tryd.pinned.checked.prog.funcNamed "cardcase/cardcaselaw07.LinesEach" = some f) (hfn : Tryd.pinned.checked.prog.funcs[f]? = some fn) :
    false = Tryd.pinned.checked.prog.looks [] ∧ ∀ (j : Nat) t, fn.params[j]? = some t → Tryd.pinned.checked.prog.wantsStandIn t = false := by
  obtain rfl : f = 4 := Option.some.inj ((show Tryd.prog.funcNamed "cardcase/cardcaselaw07.LinesEach" = some 4 by kernel_rfl).symm.trans hf) |>.symm
  obtain rfl : fn = Tryd.f4 := (Option.some.inj (Tryd.func4.symm.trans hfn)).symm
  refine ⟨by kernel_rfl, fun j t ht => ?_⟩
  have hall : (Tryd.f4.params.toList.all fun t => !Tryd.prog.wantsStandIn t) = true := by kernel_rfl
  have hm := List.all_eq_true.1 hall t (by simpa using Array.mem_of_getElem? ht)
  exact Bool.not_eq_true' _ ▸ hm
/-- THE CARD. -/
theorem each_card : Rows.LinesEachCardSaid :=
  Claim7.holds_tied_plain_at .later [] _ _ _ _ each_said (fun _ h => by cases h) (by kernel_rfl) (fun _ h => by cases h) linesEach_row_tie rfl ⟨rfl, rfl⟩ (by kernel_rfl) rfl each_plain (by kernel_rfl)

end Go.Proofs.YtclcahkgeaediaaDoor
