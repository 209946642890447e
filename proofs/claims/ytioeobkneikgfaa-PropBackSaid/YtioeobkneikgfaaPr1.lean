/- A parameter's value, and what is left without it: the program's. -/
import Derived.Test.YtioeobkneikgfaaPrDefs
import Derived.Test.YtioeobkneikgfaaRd2
namespace Go.Proofs.Ytioeobkneikgfaa
open Go.RowKit Lift
set_option linter.unusedSimpArgs false
set_option linter.unusedVariables false

set_option maxHeartbeats 1000000 in
set_option maxRecDepth 100000 in
theorem isName1 (a : Nat) (name : ByteArray) (B : Nat) (W : World) (ha : a < B) (hB : B ≤ W.heap.size) (hc : W.cell? ⟨a, 0, none⟩ = some (.string name)) : PredOf okPar encPar 25 [.pointer (some ⟨a, 0, none⟩)] (fun c => decide (c.1 = name)) B W := by
  refine ⟨fun args w => by kernel_rfl, fun w c hok hb => ?_⟩
  have hcw := (hb.cell (p := ⟨a, 0, none⟩) ha).trans hc
  have hlt : a < w.heap.size := by have := hb.size; omega
  clear hb hc
  show Calls Try.prog 25 #[.agg #[.string c.1, .string c.2], .pointer (some ⟨a, 0, none⟩)] w _
  go_enter Try.func25, Try.ntmps25
  go_wp2_with fail
  go_ret
  exact ⟨ret_bool (str_eq _ _), (Below.refl _ _).alloc (Nat.le_refl _) _⟩

/-- A property as a value. -/
def propV (g n : ByteArray) (ao : Option Addr) (len cap : Nat) (v : ByteArray) (aa : Option Addr) (na ca : Nat) : Value := .agg #[.string g, .string n, .slice ao len cap, .string v, .slice aa na ca]
def parOf (name : ByteArray) (l : List Par) : ByteArray × Bool := match l.find? (fun c => decide (c.1 = name)) with | some c => (c.2, true) | none => (ByteArray.empty, false)
theorem parOf_none {name : ByteArray} {l : List Par} (h : idx (fun c => decide (c.1 = name)) 0 l = -1) : parOf name l = (ByteArray.empty, false) := by
  unfold parOf
  rw [List.find?_eq_none.2 (fun c hc => by have := idx_none _ _ _ h c hc; simpa using this)]
theorem parOf_some {name : ByteArray} {l : List Par} {j : Nat} {c : Par} (h : idx (fun c => decide (c.1 = name)) 0 l = j) (hj : l[j]? = some c) : parOf name l = (c.2, true) := by
  obtain ⟨d, h1, h2, h3⟩ := idx_at _ _ _ j (by rw [h]; simp)
  rw [hj] at h1; cases h1
  unfold parOf
  rw [(List.find?_eq_some_iff_getElem (xs := l) (p := fun c => decide (c.1 = name)) (b := c)).2 ⟨h2, j, (List.getElem?_eq_some_iff.1 hj).1, (List.getElem?_eq_some_iff.1 hj).2, fun i hi => by
    have hl := (List.getElem?_eq_some_iff.1 hj).1
    have := h3 (l[i]'(by omega)) (by rw [List.mem_take_iff_getElem]; exact ⟨i, by omega, rfl⟩)
    simpa using this⟩]

def PairB (x : ByteArray × Bool) (w : World) (e : Ending) (w' : World) : Prop := e = .returned (.tuple #[.string x.1, .bool x.2]) ∧ Below w.heap.size w w'

set_option maxHeartbeats 1000000 in
set_option maxRecDepth 100000 in
theorem param_any (g n v name : ByteArray) (aa : Option Addr) (na ca : Nat) (ao : Option Addr) (cap : Nat) (l : List Par) (w : World) (hl : SlAt rPar (· < w.heap.size) w ao l) (hlen : l.length ≤ 100000) :
    Calls Try.prog 9 #[propV g n ao l.length cap v aa na ca, .string name] w (PairB (parOf name l) w) := by
  unfold propV
  go_enter Try.func9, Try.ntmps9
  go_wp2_with fail
  have hb1 : Below w.heap.size w ((w.alloc (Obj.cells #[Value.string g, Value.string n, Value.slice ao l.length cap, Value.string v, Value.slice aa na ca] 25)).alloc (Obj.cells #[Value.string name] 9)) := ((Below.refl _ _).alloc (Nat.le_refl _) _).alloc (by simp) _
  refine (index_par1 _ _ _ _ _ (fun c => decide (c.1 = name)) _ (hl.old hb1).here hlen (isName1 _ name _ _ (by simp) (Nat.le_refl _) (by simp))).mono ?_
  rintro e w3 ⟨rfl, hb3⟩
  obtain ⟨hc3, hf3⟩ := bcell hb3
  have hz3 := bsize hb3
  simp only [World.size_alloc] at hc3 hf3 hz3
  have hB := chain hb1 hb3
  rcases idx_ge (fun c : Par => decide (c.1 = name)) l 0 with hi | ⟨hi1, hi2⟩
  · have HR := Lib.hid (parOf_none hi)
    rw [hi]
    clear hi
    go_wp2_with fail
    go_ret2
    exact ⟨by rw [HR.out]; rfl, hB⟩
  · obtain ⟨j, hj⟩ := Int.eq_ofNat_of_zero_le (show 0 ≤ idx (fun c : Par => decide (c.1 = name)) 0 l by omega)
    obtain ⟨c, hcl⟩ := some_at (show j < l.length by omega)
    have HR := Lib.hid (parOf_some hj hcl)
    rw [hj] at hi1 hi2 ⊢
    clear hj
    obtain ⟨bb, oo, rfl, hs1, hb4, hok, x0, x1⟩ := par_get (hl.old hB) hcl
    have hj2 : (j : Int) < (l.length : Int) := by omega
    go_wp2_with fail
    go_ret2
    exact ⟨by rw [HR.out]; rfl, hB⟩

theorem zeroPar (w : World) : (zeroValue 42).run Try.prog w = .ok (.agg #[.string ByteArray.empty, .string ByteArray.empty]) w := by kernel_rfl

set_option maxHeartbeats 1000000 in
set_option maxRecDepth 100000 in
theorem delete_par1 (g0 cap base : Nat) (l : List Par) (g : FuncId) (b1 : Value) (p : Par → Bool) (W w : World) (hO : Own rPar (fun _ => True) w base 42 (.slice (some ⟨g0, 0, none⟩) l.length cap) l) (hlen : l.length ≤ 100000) (hW : Below base W w) (hp : PredOf okPar encPar g [b1] p base W) :
    Calls Try.prog 26 #[.slice (some ⟨g0, 0, none⟩) l.length cap, .func (.func g) #[] #[b1]] w (DelPost rPar 42 base g0 cap (l.filter fun c => !p c) w) := by
  have HP := Lib.hid hp.calls
  have hen := hp.enters
  clear hp
  go_enter Try.func26, Try.ntmps26
  have hbase : base ≤ w.heap.size := by have := hO.lt g0 rfl; omega
  have hp0 : PredOf okPar encPar g [b1] p w.heap.size w := ⟨hen, fun w' c hc hb => HP.out w' c hc (hW.trans (hb.mono hbase))⟩
  have HX := Lib.hid (index_par1 (some ⟨g0, 0, none⟩) cap l g b1 p w hO.here hlen hp0)
  clear hp0
  go_wp2_with fail
  refine HX.out.mono ?_
  rintro e w3 ⟨rfl, hb3⟩
  have hO3 := hO.below hb3
  have hW3 := hW.trans (hb3.mono hbase)
  rcases idx_ge p l 0 with hi | ⟨hi1, hi2⟩
  · have HR := Lib.hid (filter_none (idx_none p l 0 hi))
    rw [hi]
    clear hi
    go_wp2_with fail
    go_ret
    rw [HR.out]
    exact ⟨rfl, hO3, Kept.of_below hb3 _⟩
  · obtain ⟨i, hi⟩ := Int.eq_ofNat_of_zero_le (show 0 ≤ idx p 0 l by omega)
    obtain ⟨c0, hc0, hpc0, hbef⟩ := idx_at p l 0 i (by rw [hi]; simp)
    have hil : i < l.length := (List.getElem?_eq_some_iff.1 hc0).1
    have HF := Lib.hid (filter_first hc0 hpc0 hbef)
    rw [hi]
    clear hi hi1 hi2 hc0 hpc0 hbef HX
    have hne : ((i : Int) == -1) = false := by simp
    have hcap := hO.cap.1
    go_wp2_with fail
    go_loopw [5, 6] (fun v5 v6 wr => ∃ (a j : Nat) (m : List Par), a < j ∧ j ≤ l.length ∧ v5 = .int .i64 a ∧ v6 = .int .i64 j ∧ Hid (m.length = l.length ∧ m.take a = (l.take j).filter (fun c => !p c) ∧ m.drop j = l.drop j) ∧ Own rPar (fun _ => True) wr base 42 (.slice (some ⟨g0, 0, none⟩) l.length cap) m ∧ Kept (fun j => j = g0) w wr ∧ Below base W wr) (fun _ v6 _ => l.length - (intOf v6).toNat)
    case atStart => exact ⟨i, i + 1, l, by omega, by omega, rfl, by go_num, Lib.hid ⟨rfl, HF.out, rfl⟩, hO3, Kept.of_below hb3 _, hW3⟩
    case round =>
      obtain ⟨a, j, m, haj, hjl, rfl, rfl, hm, hO, hK, hWr⟩ := hrel
      have hsz := hK.size
      have hsb : base ≤ wr.heap.size := by omega
      have hg0 := (hO.lt g0 rfl).2
      have hlm : m.length ≤ l.length := by rw [hm.out.1]; exact Nat.le_refl _
      have hlm2 : l.length ≤ m.length := by rw [hm.out.1]; exact Nat.le_refl _
      by_cases hjl2 : j < l.length
      · obtain ⟨c, hcl⟩ := some_at hjl2
        have hcm := (drop_get hm.out.2.2).trans hcl
        obtain ⟨hok, x0, x1⟩ := par_own hO hcm
        have hj2 : (j : Int) < (l.length : Int) := by omega
        have ha2 : (a : Int) < (l.length : Int) := by omega
        have hlim : j ≤ 100000 := by omega
        have hb5 : Below wr.heap.size wr (wr.alloc (Obj.cells #[Value.string c.1, Value.string c.2] 42)) := (Below.refl _ _).alloc (Nat.le_refl _) _
        have hW5 := hWr.trans (hb5.mono hsb)
        have hpc := HP.out _ c hok hW5
        cases hpq : p c with
        | true =>
          have HM := Lib.hid (show m.length = l.length ∧ m.take a = (l.take (j + 1)).filter (fun c => !p c) ∧ m.drop (j + 1) = l.drop (j + 1) from ⟨hm.out.1, by rw [hm.out.2.1, take_at2 hcl, List.filter_append]; simp [hpq], by have := congrArg (List.drop 1) hm.out.2.2; simpa using this⟩)
          rw [hpq] at hpc
          have HC := Lib.hid hpc
          clear hpc hpq
          go_wp2_with fail
          refine HC.out.mono ?_
          rintro e w6 ⟨rfl, hb6⟩
          have hb7 := chain hb5 hb6
          go_wp2_with fail
          go_roundw
          case measure => simp [intOf]; omega
          case rel => exact ⟨a, j + 1, m, by omega, by omega, rfl, by go_num, HM, hO.below hb7, hK.trans (Kept.of_below hb7 _) (fun _ _ h => h) (fun _ _ h => h), hWr.trans (hb7.mono hsb)⟩
        | false =>
          obtain ⟨d, hdm⟩ := some_at (show a < m.length by omega)
          rw [hpq] at hpc
          have HC := Lib.hid hpc
          clear hpc
          go_wp2_with fail
          refine HC.out.mono ?_
          rintro e w6 ⟨rfl, hb6⟩
          have hb7 := chain hb5 hb6
          have hO7 := hO.below hb7
          obtain ⟨_, y0, y1⟩ := par_own hO7 hdm
          have f0 := hO7.free (a * 2)
          have f1 := hO7.free (a * 2 + 1)
          obtain ⟨hc6, hf6⟩ := bcell hb6
          have hz6 := bsize hb6
          simp only [World.size_alloc] at hc6 hf6 hz6
          have HS := Lib.hid (hO7.store (k := a) (by omega) (c := c) (par_rel _ _ c hok))
          have HM := Lib.hid (show (m.set a c).length = l.length ∧ (m.set a c).take (a + 1) = (l.take (j + 1)).filter (fun c => !p c) ∧ (m.set a c).drop (j + 1) = l.drop (j + 1) from ⟨by simp [hm.out.1], by rw [set_take (by omega), hm.out.2.1, take_at2 hcl, List.filter_append]; simp [hpq], by rw [List.drop_set_of_lt (by omega)]; have := congrArg (List.drop 1) hm.out.2.2; simpa using this⟩)
          clear hpq
          go_wp2_with fail
          go_roundw
          case measure => simp [intOf]; omega
          case rel => exact ⟨a + 1, j + 1, m.set a c, by omega, by omega, by go_num, by go_num, HM, HS.out.1, (hK.trans (Kept.of_below hb7 _) (fun _ _ h => h) (fun _ _ h => h)).trans HS.out.2 (fun _ _ h => h) (fun _ _ h => h), (hWr.trans (hb7.mono hsb)).trans (HS.out.2.below (by have := hb7.size; omega) (fun k hk => by have := (hO.lt g0 rfl).1; omega))⟩
      · obtain rfl : j = l.length := by omega
        have hca : a < cap := by omega
        have hca2 : ¬ cap = a := by omega
        have hcl0 := run_clear_row (P := Try.prog) wr 22 42 0 _ Try.underlying22 zeroPar (by simp [Value.cells, Value.oneCell']) g0 (a * 2) (l.length - a) (cap - a) (by omega) (fun j hj => hO.isSome (show a * 2 + j < m.length * 2 by simp [Value.cells] at hj; omega)) (fun j hj => hO.free _)
        have hcut := Lib.hid (hO.cut (k := a) (by omega) (cs := (Builtin.zeroCells (Value.agg #[.string ByteArray.empty, .string ByteArray.empty]).cells (l.length - a)).toList) (by rw [zeroCells_size]; show a * 2 + (l.length - a) * 2 ≤ m.length * 2; omega))
        have HR := Lib.hid (show m.take a = l.filter fun c => !p c by have := hm.out.2.1; rwa [List.take_length] at this)
        go_wp2_with fail
        go_ret
        have hfl : (l.filter fun c => !p c).length = a := by rw [← HR.out, List.length_take, Nat.min_eq_left (by omega)]
        obtain ⟨hc1, hc2⟩ := hcut.out
        rw [HR.out] at hc1
        refine ⟨by rw [hfl]; rfl, by rw [hfl]; exact hc1, hK.trans hc2 (fun _ _ h => h) (fun _ _ h => h)⟩
end Go.Proofs.Ytioeobkneikgfaa
