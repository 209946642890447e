/- A property with its value as it is written: the program's raw. -/
import Derived.Test.YtcfbmfcobpfcjaaDoorVcText
import Derived.Test.YtcfbmfcobpfcjaaDoorVcB64
import Derived.Test.YtcfbmfcobpfcjaaDoorOrdTail
namespace Lift
open Go Go.RowKit
theorem act_mid {a a0 : Act} {L : List Value} (lo m : Nat) (h0 : a0.tmps = L.toArray) (hlm : lo + m ≤ L.length) (htm : a.tmps.size = a0.tmps.size) (hdf : a.defers = a0.defers) (hr : ∀ t, (t < lo ∨ lo + m ≤ t) → a.tmps.getD t undef = a0.tmps.getD t undef) :
    a = { tmps := (L.take lo ++ ((List.range m).map (fun i => a.tmps.getD (lo + i) undef) ++ L.drop (lo + m))).toArray, defers := a0.defers } := by
  have hsz : a.tmps.size = L.length := by rw [htm, h0]; simp
  suffices ht : a.tmps = (L.take lo ++ ((List.range m).map (fun i => a.tmps.getD (lo + i) undef) ++ L.drop (lo + m))).toArray by
    rw [← hdf]
    obtain ⟨tm, df⟩ := a
    exact congrArg (fun x => Act.mk x df) ht
  apply Array.ext_getElem?
  intro t
  by_cases ht : t < L.length
  · have hget : ∀ (x : Array Value), x.size = L.length → x[t]? = some (x.getD t undef) := fun x hx => by
      rw [Array.getD_eq_getD_getElem?, Array.getElem?_eq_getElem (by omega)]; rfl
    rw [hget _ hsz]
    by_cases h1 : t < lo
    · have := hr t (.inl h1)
      rw [this, h0, Array.getD_eq_getD_getElem?]
      simp only [List.getElem?_toArray]
      rw [List.getElem?_append_left (by simp; omega), List.getElem?_take_of_lt h1, List.getElem?_eq_getElem ht]
      rfl
    · by_cases h2 : t < lo + m
      · simp only [List.getElem?_toArray]
        rw [List.getElem?_append_right (by simp; omega), List.length_take, Nat.min_eq_left (by omega), List.getElem?_append_left (by simp; omega)]
        rw [List.getElem?_map, List.getElem?_range (by omega)]
        simp only [Option.map_some]
        rw [show lo + (t - lo) = t by omega]
      · have := hr t (.inr (by omega))
        rw [this, h0, Array.getD_eq_getD_getElem?]
        simp only [List.getElem?_toArray]
        rw [List.getElem?_append_right (by simp; omega), List.length_take, Nat.min_eq_left (by omega), List.getElem?_append_right (by simp; omega)]
        simp only [List.length_map, List.length_range, List.getElem?_drop]
        rw [show lo + m + (t - lo - m) = t by omega, List.getElem?_eq_getElem ht]
        rfl
  · rw [Array.getElem?_eq_none (by omega), Array.getElem?_eq_none (by simp; omega)]
end Lift
namespace Go.Proofs.YtcfbmfcobpfcjaaDoor
open Go.RowKit Lift Go.Shelf
set_option linter.unusedSimpArgs false
set_option linter.unusedVariables false
attribute [local go_sem] Oper.semAt_some

theorem slAt_none {α : Type} {r : Rd α} {S : Nat → Prop} {w : World} {l : List α} (h : SlAt r S w none l) : l = [] := by
  cases l with
  | nil => rfl
  | cons a r' =>
    obtain ⟨b, off, cs, h1, _⟩ := h.get (k := 0) (c := a) rfl
    cases h1
def ParsPost (l : List Par) (w : World) (e : Ending) (w' : World) : Prop := ∃ ao cap, e = .returned (.slice ao l.length cap) ∧ Lift.Own rPar (fun _ => True) w' w.heap.size 58 (.slice ao l.length cap) l ∧ Below w.heap.size w w'
theorem clone_pars (ao : Option Addr) (cap : Nat) (l : List Par) (w : World) (hl : SlAt rPar (· < w.heap.size) w ao l) (hlen : l.length ≤ 1000) (hc : ao = none → cap = 0) :
    Calls Tryd.prog 36 #[.slice ao l.length cap] w (ParsPost l w) := by
  cases ao with
  | none =>
    obtain rfl := slAt_none hl
    obtain rfl := hc rfl
    exact (clone_nil w).mono (fun e w' ⟨h1, h2⟩ => ⟨none, 0, h1, Lift.Own.nil _ _ _ _ _, h2⟩)
  | some a0 => exact (clone_par a0 cap l w hl (by omega)).mono (fun e w' ⟨g, c, h1, h2, h3⟩ => ⟨_, c, h1, h2, h3⟩)
set_option maxHeartbeats 1000000 in
set_option maxRecDepth 100000 in
theorem utf_any (w : World) : Calls Tryd.prog 41 #[.int .i64 3] w (fun e w' => e = .returned (.string kUtf) ∧ w' = w) := by
  go_enter Tryd.func41, Tryd.ntmps41
  go_wp2_with fail
  go_ret
  exact ⟨rfl, rfl⟩
def RawPost (g n : ByteArray) (x : List Par × ByteArray) (w : World) (e : Ending) (w' : World) : Prop :=
  ∃ ao cap, e = .returned (propV g n ao x.1.length cap x.2 none 0 0) ∧ SlAt rPar (· < w'.heap.size) w' ao x.1 ∧ Below w.heap.size w w'
/-- A property's box, and what else stands. -/
structure RB (w : World) (b : Nat) (cs : Array Value) (W : World) : Prop where
  blk : W.heap[b]? = some (.cells cs 42 (0, 0))
  res : W.heap[b + 1]? = some (.cells #[.string ⟨#[]⟩, .string ⟨#[]⟩, .slice none 0 0, .string ⟨#[]⟩, .slice none 0 0] 42 (0, 0))
  below : Below w.heap.size w W
theorem RB.sz {w W : World} {b : Nat} {cs : Array Value} (h : RB w b cs W) : b + 1 < W.heap.size := (Array.getElem?_eq_some_iff.1 h.res).1
theorem RB.next {w W W' : World} {b : Nat} {cs : Array Value} (h : RB w b cs W) (hb : Below W.heap.size W W') : RB w b cs W' := by
  obtain ⟨h1, h3, h4⟩ := h
  exact ⟨(hb.block b (Array.getElem?_eq_some_iff.1 h1).1).trans h1, (hb.block (b + 1) (Array.getElem?_eq_some_iff.1 h3).1).trans h3, h4.trans (hb.mono h4.size)⟩
theorem RB.kept {w W W' : World} {b : Nat} {cs : Array Value} {X : Nat → Prop} (h : RB w b cs W) (hk : Kept X W W') (hX : ∀ k, X k → b + 1 < k) (hbw : w.heap.size ≤ b) : RB w b cs W' := by
  obtain ⟨h1, h3, h4⟩ := h
  exact ⟨(hk.block b (Array.getElem?_eq_some_iff.1 h1).1 (fun h => by have := hX _ h; omega)).trans h1, (hk.block (b + 1) (Array.getElem?_eq_some_iff.1 h3).1 (fun h => by have := hX _ h; omega)).trans h3, h4.trans (hk.below h4.size (fun k hk => by have := hX _ hk; omega))⟩
theorem RB.set {w W : World} {b : Nat} {cs : Array Value} (h : RB w b cs W) (hbw : w.heap.size ≤ b) (i : Nat) (v : Value) : RB w b (cs.setIfInBounds i v) (W.setCell ⟨b, i, none⟩ v) := by
  obtain ⟨h1, h3, h4⟩ := h
  have hk : Kept (· = b) W (W.setCell ⟨b, i, none⟩ v) := Kept.setCell (X := (· = b)) W (p := ⟨b, i, none⟩) rfl v
  refine ⟨?_, (hk.block (b + 1) (Array.getElem?_eq_some_iff.1 h3).1 (by simp)).trans h3, h4.trans (hk.below h4.size (fun k e => by omega))⟩
  simp [World.setCell, Array.getElem?_modify, h1]
theorem RB.cell {w W : World} {b : Nat} {cs : Array Value} (h : RB w b cs W) (i : Nat) : W.cell? ⟨b, i, none⟩ = cs[i]? := Lib.cell_of_heap h.blk i
theorem RB.free {w W : World} {b : Nat} {cs : Array Value} (h : RB w b cs W) (i : Nat) : W.frozen? ⟨b, i, none⟩ = false := Lib.frozen_of_heap h.blk i
theorem RB.rcell {w W : World} {b : Nat} {cs : Array Value} (h : RB w b cs W) : W.cell? ⟨b + 1, 0, none⟩ = some (.string ⟨#[]⟩) ∧ W.cell? ⟨b + 1, 1, none⟩ = some (.string ⟨#[]⟩) ∧ W.cell? ⟨b + 1, 2, none⟩ = some (.slice none 0 0) ∧ W.cell? ⟨b + 1, 3, none⟩ = some (.string ⟨#[]⟩) ∧ W.cell? ⟨b + 1, 4, none⟩ = some (.slice none 0 0) :=
  ⟨(Lib.cell_of_heap h.res 0).trans rfl, (Lib.cell_of_heap h.res 1).trans rfl, (Lib.cell_of_heap h.res 2).trans rfl, (Lib.cell_of_heap h.res 3).trans rfl, (Lib.cell_of_heap h.res 4).trans rfl⟩
theorem RB.rfree {w W : World} {b : Nat} {cs : Array Value} (h : RB w b cs W) (i : Nat) : W.frozen? ⟨b + 1, i, none⟩ = false := Lib.frozen_of_heap h.res i
theorem lt6 {i : Nat} (h : i < 6) : i = 0 ∨ i = 1 ∨ i = 2 ∨ i = 3 ∨ i = 4 ∨ i = 5 := by omega
theorem lt9 {i : Nat} (h : i < 9) : i = 0 ∨ i = 1 ∨ i = 2 ∨ i = 3 ∨ i = 4 ∨ i = 5 ∨ i = 6 ∨ i = 7 ∨ i = 8 := by omega
def RQ (b : Nat) (a2 : Option Addr) (len c2 B : Nat) : Nat → Value → World → Prop
  | 0, v, _ => v = .pointer (some ⟨b, 2, none⟩)
  | 1, v, _ => v = .slice a2 len c2
  | 2, v, _ => v = .string kUtf
  | 3, v, _ => v = .agg #[.string kChr, .string kUtf]
  | 4, v, _ => v = .agg #[.string kEnc, .string kQP]
  | 5, v, W => ∃ g, v = .slice (some ⟨g, 0, none⟩) 2 2 ∧ B ≤ g ∧ W.heap[g]? = some (.cells #[.string kChr, .string kUtf, .string kEnc, .string kQP] 58 (0, 0))
  | _ + 6, _, _ => False
def fin5 (W : World) (b : Nat) (g n v : ByteArray) (ao : Option Addr) (len cap : Nat) : World :=
  (((((W.setCell ⟨b, 0, none⟩ (.string g)).setCell ⟨b, 1, none⟩ (.string n)).setCell ⟨b, 2, none⟩ (.slice ao len cap)).setCell ⟨b, 3, none⟩ (.string v)).setCell ⟨b, 4, none⟩ (.slice none 0 0))
theorem fin5_kept (W : World) (b : Nat) (g n v : ByteArray) (ao : Option Addr) (len cap : Nat) : Kept (· = b) W (fin5 W b g n v ao len cap) := by
  have h : ∀ (W : World) (i : Nat) (v : Value), Kept (· = b) W (W.setCell ⟨b, i, none⟩ v) := fun W i v => Kept.setCell (X := (· = b)) W (p := ⟨b, i, none⟩) rfl v
  have t : ∀ {A B C : World}, Kept (· = b) A B → Kept (· = b) B C → Kept (· = b) A C := fun h k => h.trans k (fun _ _ h => h) (fun _ _ h => h)
  exact t (t (t (t (h _ _ _) (h _ _ _)) (h _ _ _)) (h _ _ _)) (h _ _ _)
/-- The result's cells, written. -/
theorem fin5_cells {w W : World} {b : Nat} {cs : Array Value} (h : RB w b cs W) (g n v : ByteArray) (ao : Option Addr) (len cap : Nat) :
    (fin5 W (b + 1) g n v ao len cap).cell? ⟨b + 1, 0, none⟩ = some (.string g) ∧ (fin5 W (b + 1) g n v ao len cap).cell? ⟨b + 1, 1, none⟩ = some (.string n) ∧ (fin5 W (b + 1) g n v ao len cap).cell? ⟨b + 1, 2, none⟩ = some (.slice ao len cap) ∧ (fin5 W (b + 1) g n v ao len cap).cell? ⟨b + 1, 3, none⟩ = some (.string v) ∧ (fin5 W (b + 1) g n v ao len cap).cell? ⟨b + 1, 4, none⟩ = some (.slice none 0 0) := by
  have hb : (fin5 W (b + 1) g n v ao len cap).heap[b + 1]? = some (.cells #[.string g, .string n, .slice ao len cap, .string v, .slice none 0 0] 42 (0, 0)) := by
    unfold fin5
    simp [World.setCell, Array.getElem?_modify, h.res]
  exact ⟨(Lib.cell_of_heap hb 0).trans rfl, (Lib.cell_of_heap hb 1).trans rfl, (Lib.cell_of_heap hb 2).trans rfl, (Lib.cell_of_heap hb 3).trans rfl, (Lib.cell_of_heap hb 4).trans rfl⟩
theorem own_cells {α : Type} {r : Rd α} {S : Nat → Prop} {w : World} {base : Nat} {e : TypeId} {v : Value} {l : List α} (h : Lift.Own r S w base e v l) (k : Nat) (hk : v.ownBlock = some k) (o : Obj) (ho : w.heap[k]? = some o) : o.isCells = true := by
  obtain ⟨xs, h1, h2⟩ := h
  rcases h1.2 with ⟨h3, h4⟩ | ⟨g, cap', cur, h3, hbg, hg3, _⟩
  · rw [h3] at hk; cases hk
  · rw [h3] at hk; cases hk
    rw [hg3] at ho; cases ho; rfl
theorem raw_fin {w W : World} {cs : Array Value} {g n : ByteArray} {v : ByteArray} {l : List Par} {ao : Option Addr} {cap : Nat} (h : RB w w.heap.size cs W) (hO : Lift.Own rPar (fun _ => True) W (w.heap.size + 2) 58 (.slice ao l.length cap) l) :
    SlAt rPar (· < (fin5 W (w.heap.size + 1) g n v ao l.length cap).heap.size) (fin5 W (w.heap.size + 1) g n v ao l.length cap) ao l ∧ Below w.heap.size w (fin5 W (w.heap.size + 1) g n v ao l.length cap) := by
  have hk := fin5_kept W (w.heap.size + 1) g n v ao l.length cap
  refine ⟨?_, h.below.trans (hk.below h.below.size (fun k e => by omega))⟩
  have hO5 : Lift.Own rPar (fun _ => True) _ (w.heap.size + 2) 58 (.slice ao l.length cap) l := hO.flat par_flat hk (fun k e h => by have := (hO.lt k e).1; omega)
  exact hO5.here
set_option maxHeartbeats 8000000 in
set_option maxRecDepth 100000 in
theorem raw_any (g n v : ByteArray) (aa : Option Addr) (na ca : Nat) (ao : Option Addr) (cap : Nat) (l : List Par) (w : World) (hT : Lib.Utf8Tabs 0 1 w) (hl : SlAt rPar (· < w.heap.size) w ao l) (hlen : l.length ≤ 100) (hv : v.size ≤ 10000) (hcn : ao = none → cap = 0) :
    Calls Tryd.prog 20 #[propV g n ao l.length cap v aa na ca] w (RawPost g n (rawP l v) w) := by
  unfold propV
  obtain ⟨W1, hW1⟩ : ∃ x, (w.alloc (.cells #[.string g, .string n, .slice ao l.length cap, .string v, .slice none 0 0] 42)).alloc (.cells #[.string ⟨#[]⟩, .string ⟨#[]⟩, .slice none 0 0, .string ⟨#[]⟩, .slice none 0 0] 42) = x := ⟨_, rfl⟩
  have hB1 : RB w w.heap.size #[.string g, .string n, .slice ao l.length cap, .string v, .slice none 0 0] W1 := by
    rw [← hW1]
    refine ⟨?_, ?_, ((Below.refl _ w).alloc (Nat.le_refl _) _).alloc (by simp) _⟩
    · exact (((Below.refl _ _).alloc (Nat.le_refl _) _).block w.heap.size (by simp)).trans (heap_alloc_new w _)
    · have := heap_alloc_new (w.alloc (.cells #[.string g, .string n, .slice ao l.length cap, .string v, .slice none 0 0] 42)) (.cells #[.string ⟨#[]⟩, .string ⟨#[]⟩, .slice none 0 0, .string ⟨#[]⟩, .slice none 0 0] 42)
      rwa [World.size_alloc] at this
  have hz1 : W1.heap.size = w.heap.size + 2 := by rw [← hW1]; simp
  have HCl := Lib.hid (clone_pars ao cap l W1 (hl.old hB1.below).here (by omega) hcn)
  have HW1 := Lib.hid hW1
  have HB1 := Lib.hid hB1
  have Hz1 := Lib.hid hz1
  clear hW1 hB1 hz1
  refine (callsIn_wide (n := 6)).1 (callsIn_of_wp_marks Tryd.func20 rfl trivial (wpIn_wide.2 ?_) rfl)
  simp only [Tryd.ntmps20, List.size_toArray, List.length_cons, List.length_nil, Nat.reduceAdd, Nat.reduceSub, Array.replicate_succ, Array.replicate_zero, List.push_toArray, List.append_toArray, List.nil_append, List.cons_append]
  go_wp2_with fail
  rw [HW1.out]
  clear HW1
  refine HCl.out.mono ?_
  rintro e W2 ⟨a2, c2, rfl, hO2, hb2⟩
  have hB2 := HB1.out.next hb2
  have y2 := hB2.cell 2
  have y3 := hB2.cell 3
  have f2 := hB2.free 2
  simp only [List.getElem?_toArray, List.getElem?_cons_zero, List.getElem?_cons_succ] at y2 y3
  obtain ⟨W3, hW3⟩ : ∃ x, W2.setCell ⟨w.heap.size, 2, none⟩ (.slice a2 l.length c2) = x := ⟨_, rfl⟩
  have hB3 := hB2.set (Nat.le_refl _) 2 (.slice a2 l.length c2)
  rw [hW3] at hB3
  have hK3 : Kept (· = w.heap.size) W2 W3 := by rw [← hW3]; exact Kept.setCell (X := (· = w.heap.size)) W2 (p := ⟨w.heap.size, 2, none⟩) rfl _
  have hz1 := Hz1.out
  have hO3 : Lift.Own rPar (fun _ => True) W3 (w.heap.size + 2) 58 (.slice a2 l.length c2) l := by
    rw [← hz1]
    exact hO2.flat par_flat hK3 (fun k hk e => by have := (hO2.lt k hk).1; omega)
  simp only [List.setIfInBounds_toArray, List.set_cons_succ, List.set_cons_zero] at hB3
  have HB3 := Lib.hid hB3
  have HO3 := Lib.hid hO3
  have HW3 := Lib.hid hW3
  have hz2 := hb2.size
  have hz3 := hK3.size
  have hcc : w.heap.size + 1 < W3.heap.size := by omega
  have HT3 := Lib.hid (tabs_below hT hB3.below)
  clear hW3 hB3 hO2 hO3 hB2 HB1 HCl hb2 hK3 hz1 Hz1 hz2 hz3
  have HP := Lib.hid (plain_any v (by omega) W3)
  cases hpl : isPlain v with
  | true =>
    have HR := Lib.hid (show rawP l v = (l, v) by unfold rawP; rw [if_pos hpl])
    rw [hpl] at HP
    clear hpl
    go_wp2_with fail
    rw [HW3.out]
    clear HW3
    refine HP.out.mono ?_
    rintro e W4 ⟨rfl, hb4⟩
    have hB4 := HB3.out.next hb4
    have k0 := hB4.cell 0; have k1 := hB4.cell 1; have k2 := hB4.cell 2; have k3 := hB4.cell 3; have k4 := hB4.cell 4
    simp only [List.getElem?_toArray, List.getElem?_cons_zero, List.getElem?_cons_succ] at k0 k1 k2 k3 k4
    obtain ⟨r0, r1, r2, r3, r4⟩ := hB4.rcell
    have rf := hB4.rfree
    have hO4 := HO3.out.below hb4
    obtain ⟨q1, q2⟩ := raw_fin (g := g) (n := n) (v := v) hB4 hO4
    have HQ := Lib.hid (And.intro q1 q2)
    obtain ⟨s0, s1, s2, s3, s4⟩ := fin5_cells hB4 g n v a2 l.length c2
    clear q1 q2 hO4
    go_wp2_with fail
    refine ⟨propV g n a2 l.length c2 v none 0 0, ?_, ?_⟩
    · unfold fin5 at s0 s1 s2 s3 s4
      simp [results, Tryd.f20, go_sem, s0, s1, s2, s3, s4, propV]
    · rw [HR.out]; exact ⟨a2, c2, rfl, HQ.out.1, HQ.out.2⟩
  | false =>
    have HV := Lib.hid (fun wx hT => cvalid_any v (by unfold maxTx; omega) wx hT)
    have HRp := Lib.hid (show rawP l v = if isValid v = true then (l ++ [(kChr, kUtf), (kEnc, kQP)], ⟨(encL v.data.toList).toArray⟩) else (l ++ [(kEnc, kB64)], ⟨(gapL (chunks 60 (sixB v))).toArray⟩) by unfold rawP; rw [if_neg (by rw [hpl]; simp)])
    rw [hpl] at HP
    clear hpl
    go_wp2_with fail
    rw [HW3.out]
    clear HW3
    refine HP.out.mono ?_
    rintro e W4 ⟨rfl, hb4⟩
    have hB4 := HB3.out.next hb4
    have HT4 := Lib.hid (tabs_below HT3.out hb4)
    have HO4 := Lib.hid (HO3.out.below hb4)
    have k3 := hB4.cell 3
    simp only [List.getElem?_toArray, List.getElem?_cons_zero, List.getElem?_cons_succ] at k3
    have HB4 := Lib.hid hB4
    have HVV := Lib.hid (HV.out W4 HT4.out)
    clear HP hb4 HB3 HT3 HO3 hB4 HV y2 y3 f2
    cases hvd : isValid v with
    | true =>
      have HR := Lib.hid (HRp.out.trans (if_pos hvd))
      rw [hvd] at HVV
      clear hvd
      go_wp2_with fail
      refine HVV.out.mono ?_
      rintro e W5 ⟨rfl, hb5⟩
      have hB5 := HB4.out.next hb5
      have HO5 := Lib.hid (HO4.out.below hb5)
      have HB5 := Lib.hid hB5
      clear HVV hb5 HB4 HO4 hB5 k3
      go_upto_region 17 with fail
      refine wp_region_eachT (by kernel_rfl) 6 (by decide) (by kernel_rfl) (by kernel_rfl) (by kernel_rfl) (by kernel_rfl) (fun W => Below W5.heap.size W5 W) (fun W W' => Below W.heap.size W W') (RQ w.heap.size a2 l.length c2 W5.heap.size) (fun i => 40 + i) ?hd ?inj ?hord ?mono ?hS0 ?hop ?hfin
      case inj => intro i j _ _ h; omega
      case hS0 => exact (Below.refl _ _).drew
      case hd =>
        intro i o hi ho
        rcases lt6 hi with rfl | rfl | rfl | rfl | rfl | rfl
        all_goals (cases ho; exact ⟨rfl, rfl, by simp⟩)
      case hord =>
        intro i o ho e he
        have hi : i < 9 := (List.getElem?_eq_some_iff.1 ho).1
        rcases lt9 hi with rfl | rfl | rfl | rfl | rfl | rfl | rfl | rfl | rfl
        all_goals (cases ho; exact all_before (by kernel_rfl) e he)
      case mono =>
        intro i v W W' h hE
        by_cases hi : i < 6
        · rcases lt6 hi with rfl | rfl | rfl | rfl | rfl | rfl
          all_goals first
            | exact h
            | (obtain ⟨g, e1, e2, e3⟩ := h; exact ⟨g, e1, e2, (hE.block g (Array.getElem?_eq_some_iff.1 e3).1).trans e3⟩)
        · exfalso
          obtain ⟨j, rfl⟩ : ∃ j, i = j + 6 := ⟨i - 6, by omega⟩
          exact h
      case hop =>
        intro i o' hi ho a W hS hr he K hK
        have h1 : a.tmps[1]?.getD undef = .pointer (some ⟨w.heap.size, 0, none⟩) := by have := hr 1 (by intro j hj; show 40 + j ≠ 1; omega); simpa using this
        have c2' := (HB5.out.next hS).cell 2
        simp only [List.getElem?_toArray, List.getElem?_cons_zero, List.getElem?_cons_succ] at c2'
        clear hr
        rcases lt6 hi with rfl | rfl | rfl | rfl | rfl | rfl
        all_goals (simp only [List.getElem?_cons_succ, List.getElem?_cons_zero, Option.some.injEq] at ho; subst ho; simp [RQ, Region.binds] at he)
        all_goals (try (simp [go_sem, Oper.wp, execOp, Act.eval, he, h1, c2']; exact hK _ _ hS (Below.refl _ _) rfl))
        · simp [go_sem, Oper.wp, execOp, Act.eval, he]
          refine (utf_any W).mono ?_
          rintro e w' ⟨rfl, rfl⟩
          exact hK _ _ hS (Below.refl _ _) rfl
        · simp [go_sem, Oper.wp, execOp, Act.eval, he]
          exact hK _ _ (hS.alloc hS.size _) ((Below.refl _ _).alloc (Nat.le_refl _) _) ⟨W.heap.size, rfl, hS.size, heap_alloc_new _ _⟩
      case hfin =>
        intro a W hS hdf htm hr hR
        have hm := act_mid 40 6 rfl (by simp) htm hdf (fun t ht => hr t (fun j hj => by show 40 + j ≠ t; omega))
        obtain ⟨x, hx⟩ : ∃ x : Nat → Value, (fun i => a.tmps.getD (40 + i) undef) = x := ⟨_, rfl⟩
        rw [hx] at hm
        have r1 : x 1 = .slice a2 l.length c2 := by rw [← hx]; exact hR 1 (by omega)
        obtain ⟨g5, e1, e2, e3⟩ := hR 5 (by omega)
        have r5 : x 5 = .slice (some ⟨g5, 0, none⟩) 2 2 := by rw [← hx]; exact e1
        clear e1 hx hR hr htm hdf
        subst hm
        rw [show List.range 6 = [0, 1, 2, 3, 4, 5] from rfl]
        simp only [List.take_succ_cons, List.take_zero, List.drop_succ_cons, List.drop_zero, List.cons_append, List.nil_append, List.map_cons, List.map_nil, r1, r5]
        clear r1 r5
        obtain ⟨i0, hi, hz0, hz1, hz2⟩ := par_info0
        have HI := Lib.hid hi; have HZ0 := Lib.hid hz0; have HZ1 := Lib.hid hz1; have HZ2 := Lib.hid hz2
        have hOW := HO5.out.below hS
        have hBW := HB5.out.next hS
        have hgz := (Array.getElem?_eq_some_iff.1 e3).1
        have hsl : SlAt rPar (fun j => True ∧ some j ≠ (Value.slice a2 l.length c2).ownBlock) W (some ⟨g5, 0, none⟩) [(kChr, kUtf), (kEnc, kQP)] := by
          refine SlAt.of_cells (xs := [.string kChr, .string kUtf, .string kEnc, .string kQP]) ⟨trivial, fun e => by have := (HO5.out.lt g5 e.symm).2; omega⟩ hgz ?_ (by
            have h1 := (RowsOf.nil rPar (fun j => True ∧ some j ≠ (Value.slice a2 l.length c2).ownBlock) W).snoc (par_rel _ W (kChr, kUtf) ⟨by decide, by decide⟩)
            have h2 := h1.snoc (par_rel _ W (kEnc, kQP) ⟨by decide, by decide⟩)
            simpa [cellsPar] using h2)
          intro i v hi
          rw [Nat.zero_add, Lib.cell_of_heap e3 i]
          simpa using hi
        refine wpList_pushAll rPar rfl (.tmp 41) (.tmp 45) 39 rfl (w.heap.size + 2) 58 i0 _ 32 Tryd.underlying39 HI.out HZ0.out HZ1.out HZ2.out rfl (by decide) (fun _ => True) (.slice a2 l.length c2) l rfl hOW (some ⟨g5, 0, none⟩) 2 [(kChr, kUtf), (kEnc, kQP)] rfl (by intro h; cases h) hsl par_one (by unfold maxLen; simp; omega) (by simp; omega) (by have := hBW.sz; omega) ?_
        intro v2 w2 hO2 hK2 hw2
        obtain ⟨a6, c6, rfl⟩ := hO2.form
        have hb6 := hBW.kept hK2 (fun k e => by have := (hOW.lt k e.symm).1; omega) (Nat.le_refl _)
        have y2 := hb6.cell 2
        have y3 := hb6.cell 3
        have f2 := hb6.free 2
        simp only [List.getElem?_toArray, List.getElem?_cons_zero, List.getElem?_cons_succ] at y2 y3
        obtain ⟨L, hL⟩ : ∃ L, l ++ [(kChr, kUtf), (kEnc, kQP)] = L := ⟨_, rfl⟩
        rw [hL] at hO2 hw2
        have HR2 := Lib.hid (show rawP l v = (L, ⟨(encL v.data.toList).toArray⟩) by rw [HR.out, hL])
        obtain ⟨W7, hW7⟩ : ∃ x, w2.setCell ⟨w.heap.size, 2, none⟩ (.slice a6 L.length c6) = x := ⟨_, rfl⟩
        have hb7 := hb6.set (Nat.le_refl _) 2 (.slice a6 L.length c6)
        rw [hW7] at hb7
        have hK7 : Kept (· = w.heap.size) w2 W7 := by rw [← hW7]; exact Kept.setCell (X := (· = w.heap.size)) w2 (p := ⟨w.heap.size, 2, none⟩) rfl _
        have HO7 := Lib.hid (hO2.flat (S' := fun _ => True) par_flat hK7 (fun k hk e => by have := (hO2.lt k hk).1; omega))
        simp only [List.setIfInBounds_toArray, List.set_cons_succ, List.set_cons_zero] at hb7
        have HB7 := Lib.hid hb7
        have HW7 := Lib.hid hW7
        have HE := Lib.hid (qenc_any v W7 (by omega))
        rw [hL]
        clear hL hb7 hW7 hK7 hb6 hK2 hw2 hO2 hsl hBW hOW e3 hi hz0 hz1 hz2 HB5 HO5 HR HRp hS
        go_wp2_with fail
        rw [HW7.out]
        clear HW7 y2 y3 f2
        refine HE.out.mono ?_
        rintro e W8 ⟨rfl, hb8⟩
        have hB8 := HB7.out.next hb8
        have HO8 := Lib.hid (HO7.out.below hb8)
        have y0 := hB8.cell 0; have y1 := hB8.cell 1; have y2 := hB8.cell 2; have y3 := hB8.cell 3; have y4 := hB8.cell 4
        have f3 := hB8.free 3
        simp only [List.getElem?_toArray, List.getElem?_cons_zero, List.getElem?_cons_succ] at y0 y1 y2 y3 y4
        obtain ⟨V, hV⟩ : ∃ V : ByteArray, ⟨(encL v.data.toList).toArray⟩ = V := ⟨_, rfl⟩
        rw [hV] at HR2 ⊢
        clear hV HE
        go_upto_region 19 with fail
        obtain ⟨W9, hW9⟩ : ∃ x, W8.setCell ⟨w.heap.size, 3, none⟩ (.string V) = x := ⟨_, rfl⟩
        have hB9 := hB8.set (Nat.le_refl _) 3 (.string V)
        rw [hW9] at hB9 ⊢
        have hO9 := HO8.out.flat (S' := fun _ => True) par_flat (X := (· = w.heap.size)) (w' := W9) (by rw [← hW9]; exact Kept.setCell (X := (· = w.heap.size)) W8 (p := ⟨w.heap.size, 3, none⟩) rfl _) (fun k hk e => by have := (HO8.out.lt k hk).1; omega)
        simp only [List.setIfInBounds_toArray, List.set_cons_succ, List.set_cons_zero] at hB9
        clear hW9 y0 y1 y2 y3 y4 f3 hB8 HO8 hb8
        have k0 := hB9.cell 0; have k1 := hB9.cell 1; have k2 := hB9.cell 2; have k3 := hB9.cell 3; have k4 := hB9.cell 4
        simp only [List.getElem?_toArray, List.getElem?_cons_zero, List.getElem?_cons_succ] at k0 k1 k2 k3 k4
        obtain ⟨r0, r1, r2, r3, r4⟩ := hB9.rcell
        have rf := hB9.rfree
        obtain ⟨q1, q2⟩ := raw_fin (g := g) (n := n) (v := V) hB9 hO9
        have HQ := Lib.hid (And.intro q1 q2)
        obtain ⟨s0, s1, s2, s3, s4⟩ := fin5_cells hB9 g n V a6 L.length c6
        clear q1 q2 hO9
        go_wp2_with fail
        refine ⟨propV g n a6 L.length c6 V none 0 0, ?_, ?_⟩
        · unfold fin5 at s0 s1 s2 s3 s4
          simp [results, Tryd.f20, go_sem, s0, s1, s2, s3, s4, propV]
        · rw [HR2.out]; exact ⟨a6, c6, rfl, HQ.out.1, HQ.out.2⟩
    | false =>
      have HR := Lib.hid (HRp.out.trans (if_neg (by rw [hvd]; simp)))
      rw [hvd] at HVV
      clear hvd HRp
      go_wp2_with fail
      refine HVV.out.mono ?_
      rintro e W5 ⟨rfl, hb5⟩
      have hB5 := HB4.out.next hb5
      have HO5 := Lib.hid (HO4.out.below hb5)
      have y2 := hB5.cell 2
      simp only [List.getElem?_toArray, List.getElem?_cons_zero, List.getElem?_cons_succ] at y2
      have HB5 := Lib.hid hB5
      obtain ⟨i0, hi, hz0, hz1, hz2⟩ := par_info0
      have HI := Lib.hid hi; have HZ0 := Lib.hid hz0; have HZ1 := Lib.hid hz1; have HZ2 := Lib.hid hz2
      have hsz5 := hB5.sz
      clear HVV hb5 HB4 HO4 hB5 k3 hi hz0 hz1 hz2
      go_wp2_with (first
        | (at_builtin; refine wpList_push rPar rfl _ _ 39 rfl (w.heap.size + 2) 58 i0 _ 32 Tryd.underlying39 HI.out HZ0.out HZ1.out HZ2.out rfl (by decide) (fun _ => True) (.slice a2 l.length c2) l rfl HO5.out [.string kEnc, .string kB64] (kEnc, kB64) _ rfl (by simp) (par_rel _ _ (kEnc, kB64) ⟨by decide, by decide⟩) (by simp [Value.oneCell']) (by unfold maxLen; omega) (by omega) (by omega) ?_; intro v2 w2 hO2 hK2 hw2; obtain ⟨a6, c6, rfl⟩ := hO2.form; obtain ⟨L, hL⟩ : ∃ L, l ++ [(kEnc, kB64)] = L := ⟨_, rfl⟩; rw [hL] at hO2 hw2; simp only [hL]; have HL := Lib.hid hL; clear hL; have hb6 := HB5.out.kept hK2 (fun k e => by have := (HO5.out.lt k e.symm).1; omega) (Nat.le_refl _); have z2 := hb6.cell 2; have z3 := hb6.cell 3; have f2 := hb6.free 2; simp only [List.getElem?_toArray, List.getElem?_cons_zero, List.getElem?_cons_succ] at z2 z3; have hl6 : w.heap.size < w2.heap.size := by { have := hb6.sz; omega }; clear y2)
        | fail)
      obtain ⟨W7, hW7⟩ : ∃ x, w2.setCell ⟨w.heap.size, 2, none⟩ (.slice a6 L.length c6) = x := ⟨_, rfl⟩
      have hb7 := hb6.set (Nat.le_refl _) 2 (.slice a6 L.length c6)
      rw [hW7] at hb7 ⊢
      have hK7 : Kept (· = w.heap.size) w2 W7 := by rw [← hW7]; exact Kept.setCell (X := (· = w.heap.size)) w2 (p := ⟨w.heap.size, 2, none⟩) rfl _
      have HO7 := Lib.hid (hO2.flat (S' := fun _ => True) par_flat hK7 (fun k hk e => by have := (hO2.lt k hk).1; omega))
      simp only [List.setIfInBounds_toArray, List.set_cons_succ, List.set_cons_zero] at hb7
      have HB7 := Lib.hid hb7
      have y3 := hb7.cell 3
      simp only [List.getElem?_toArray, List.getElem?_cons_zero, List.getElem?_cons_succ] at y3
      have HE := Lib.hid (fun wx => b64_any v (by omega) wx)
      have hl7 : w.heap.size < W7.heap.size := by have := hb7.sz; omega
      have hz7 := hK7.size
      have e7 : w2.heap.size = W7.heap.size := by rw [← hW7]; simp
      rw [e7]
      clear e7 hz7 hl6 hW7 hK7 hb6 hb7 hK2 hw2 hO2 z2 z3 f2 HB5 HO5
      refine (HE.out _).mono ?_
      rintro e W8 ⟨rfl, hb8⟩
      obtain ⟨s, hs⟩ : ∃ s, sixB v = s := ⟨_, rfl⟩
      have hsz : s.size ≤ 100000 := by
        rw [← hs]
        show (grps v ((v.size + 2) / 3)).length ≤ _
        rw [grps_len]; omega
      have HS := Lib.hid hs
      rw [hs]
      have HLn := Lib.hid (fun wx => lines_any s 60 (by omega) (by omega) wx)
      clear hs HE
      go_wp2_with fail
      refine (HLn.out _).mono ?_
      rintro e W9 ⟨b2, b3, rfl, p1, p2, p3, p4, p5, p6, p7⟩
      have hA7 : Below W7.heap.size W7 (W7.alloc (.cells #[.pointer none, .slice none 0 0] 50)) := (Below.refl _ _).alloc (Nat.le_refl _) _
      have hz8 := hb8.size
      rw [World.size_alloc] at hz8
      have hz9 := p7.size
      have hI0 : BI W7 W9 b2 b3 (gapL []) W9 := ⟨⟨none, ((Buf.fresh W7).below hb8).below p7, fun j h => by cases h⟩, Kept.refl _ _, (hA7.trans (hb8.mono (by simp))).trans (p7.mono (by omega))⟩
      have HI0 := Lib.hid hI0
      have P5 := Lib.hid p5
      have P6 := Lib.hid p6
      clear p5 p6 p7 hI0 hA7 hb8 y3
      go_wp2_with fail
      have hl79 : W7.heap.size < W9.heap.size := by omega
      have hall := chunks_all (wd := 60) (by omega) s.size s (Nat.le_refl _)
      refine wpIn_wide (n := 6).1 ?_
      refine range_good (F := Fence.wide) rfl (by omega) (gf := 64) (lb := #[.pointer (some ⟨b2, 0, none⟩), .pointer (some ⟨b3, 0, none⟩)]) rfl trivial (enters_of Tryd.func64 (by kernel_rfl) rfl) (encs := encT) (fun _ => rfl)
        (fun J' => ∀ pre W, J' pre W → Kept (fun b => b ≠ b2 ∧ b ≠ b3) W9 W) (fun pre x => pre ++ [x] <+: chunks 60 s) (fun xs _ => xs = chunks 60 s) (fun _ _ _ _ h _ _ => h)
        (fun l J' W hg hY h0 => six1_good 5 (by omega) l b2 b3 (fun b => b ≠ b2 ∧ b ≠ b3) s hsz 60 (by omega) (by omega) W9 J' hg W hY P5.out p3 (by simp) P6.out p4 (by simp) h0)
        (fun pre W => BI W7 W9 b2 b3 (gapL pre) W) ?own
        HI0.out
        (fun l D rl rd hl hD h1 h2 => fun pre W h => h.1.kept)
        (fun x a' _ => a' = { tmps := #[.agg #[.string g, .string n, .slice ao l.length cap, .string v, .slice aa na ca], .pointer (some ⟨w.heap.size, 0, none⟩), .pointer (some ⟨w.heap.size + 1, 0, none⟩), .int .i64 0, .pointer (some ⟨W7.heap.size, 0, none⟩), .string x, .pointer (some ⟨w.heap.size, 4, none⟩), .pointer (some ⟨w.heap.size, 2, none⟩), .slice ao l.length cap, .slice a2 l.length c2, .pointer (some ⟨w.heap.size, 2, none⟩), .bool false, .pointer (some ⟨w.heap.size, 3, none⟩), .string v, .bool false, .bool false, .pointer (some ⟨w.heap.size, 3, none⟩), .string v, .bool false, .int .i64 0, .bool true, .bool true, undef, undef, .pointer (some ⟨w.heap.size, 2, none⟩), .slice a2 l.length c2, .agg #[.string ⟨#[69, 78, 67, 79, 68, 73, 78, 71]⟩, .string ⟨#[66, 65, 83, 69, 54, 52]⟩], .slice (some ⟨W5.heap.size, 0, none⟩) 1 1, .slice a6 L.length c6, .pointer (some ⟨w.heap.size, 2, none⟩), .pointer (some ⟨w.heap.size, 3, none⟩), .string v, .string s, .func (.func 64) #[] #[.pointer (some ⟨b2, 0, none⟩), .pointer (some ⟨b3, 0, none⟩)], .string x, undef, undef, undef, undef, undef, undef, undef, undef, undef, undef, undef, undef, undef, undef, undef, undef, undef, undef], defers := [] }) (fun x a' => fun _ _ _ _ h _ _ => h) ?assign ?body ?done
      case own => exact fun pre W W' row h hg hr => h.grown p3 p4 (by omega) hg hr
      case assign =>
        rintro lp pre x W K hK hok hKK
        simp only [encT]
        gi_wp2
        exact hKK _ _ (KeepsFrom.refl _ _) hK rfl
      case body =>
        rintro lp pre x a' W hlp hK hpre rfl
        have hn2 : W7.heap.size ≠ b2 := by omega
        have hn3 : W7.heap.size ≠ b3 := by omega
        have hlx : (gapL pre).length + ((⟨#[32]⟩ : ByteArray) ++ x).size ≤ 1000000 := by
          obtain ⟨r, hr⟩ := hpre
          have h1 := hall.2.2
          have h2 := hall.1
          rw [← hr, sumB_app, sumB_app] at h1
          rw [← hr, List.length_append, List.length_append] at h2
          have h3 : sumB [x] = x.size := by simp [sumB]
          have h4 : ((⟨#[32]⟩ : ByteArray) ++ x).size = 1 + x.size := by rw [ByteArray.size_append]; rfl
          rw [gapL_len, h4]; omega
        have hx60 : x.size ≤ 60 := (hall.2.1 x (hpre.subset (by simp))).2
        have HC := Lib.hid (hK.text p3 p4 hn2 hn3 ((⟨#[32]⟩ : ByteArray) ++ x) (by omega))
        have HG := Lib.hid (show gapL (pre ++ [x]) = gapL pre ++ ((⟨#[32]⟩ : ByteArray) ++ x).data.toList by rw [gapL_snoc]; simp)
        clear hK hpre hlx hall
        gi_wp2
        refine ⟨trivial, (CallsIn.inRound lp (callsIn_wide.2 HC.out)).mono ?_⟩
        rintro e W4 ⟨rfl, hB4, hF4⟩
        gi_wp2
        first | (rw [HG.out]; exact hB4) | exact ⟨hF4, by rw [HG.out]; exact hB4⟩
      case done =>
        rintro D xs W hD hxs hK hDf
        subst hxs
        have HKs := Lib.hid hK.string
        have HR2 := Lib.hid (show rawP l v = (L, ⟨(gapL (chunks 60 s)).toArray⟩) by rw [HR.out, HL.out, HS.out])
        obtain ⟨V, hV⟩ : ∃ V : ByteArray, ⟨(gapL (chunks 60 s)).toArray⟩ = V := ⟨_, rfl⟩
        rw [hV] at HR2 HKs
        clear hK hall HR hV
        go_wp2_with fail
        refine HKs.out.mono ?_
        rintro e W8 ⟨rfl, hb8, hd8⟩
        have HD8 := Lib.hid (hd8 D hDf)
        have hB8 := HB7.out.next hb8
        have HO8 := Lib.hid (HO7.out.below hb8)
        have y0 := hB8.cell 0; have y1 := hB8.cell 1; have y2 := hB8.cell 2; have y3 := hB8.cell 3; have y4 := hB8.cell 4
        have f3 := hB8.free 3
        simp only [List.getElem?_toArray, List.getElem?_cons_zero, List.getElem?_cons_succ] at y0 y1 y2 y3 y4
        clear hd8 hDf HB7 HO7 HKs
        go_upto_region 19 with fail
        obtain ⟨W9', hW9⟩ : ∃ x, W8.setCell ⟨w.heap.size, 3, none⟩ (.string V) = x := ⟨_, rfl⟩
        have hB9 := hB8.set (Nat.le_refl _) 3 (.string V)
        have hDb : w.heap.size + 1 < D := by omega
        have hD9 : W9'.heap[D]? = some (Obj.deferred (some [])) := by
          rw [← hW9]
          exact (Below.heap_setCell _ _ _ _ (by show D ≠ w.heap.size; omega)).trans HD8.out
        rw [hW9] at hB9 ⊢
        have hO9 := HO8.out.flat (S' := fun _ => True) par_flat (X := (· = w.heap.size)) (w' := W9') (by rw [← hW9]; exact Kept.setCell (X := (· = w.heap.size)) W8 (p := ⟨w.heap.size, 3, none⟩) rfl _) (fun k hk e => by have := (HO8.out.lt k hk).1; omega)
        simp only [List.setIfInBounds_toArray, List.set_cons_succ, List.set_cons_zero] at hB9
        clear hW9 y0 y1 y2 y3 y4 f3 hB8 HO8 hb8 HD8
        have k0 := hB9.cell 0; have k1 := hB9.cell 1; have k2 := hB9.cell 2; have k3 := hB9.cell 3; have k4 := hB9.cell 4
        simp only [List.getElem?_toArray, List.getElem?_cons_zero, List.getElem?_cons_succ] at k0 k1 k2 k3 k4
        obtain ⟨r0, r1, r2, r3, r4⟩ := hB9.rcell
        have rf := hB9.rfree
        obtain ⟨q1, q2⟩ := raw_fin (g := g) (n := n) (v := V) hB9 hO9
        have hk5 := fin5_kept W9' (w.heap.size + 1) g n V a6 L.length c6
        have hD5 := (hk5.block D (Array.getElem?_eq_some_iff.1 hD9).1 (by omega)).trans hD9
        have hO5 := hO9.flat (S' := fun _ => True) par_flat hk5 (fun k hk e => by have := (hO9.lt k hk).1; omega)
        have hkF := Kept.of_grown (grownBy_putObj' (fin5 W9' (w.heap.size + 1) g n V a6 L.length c6) D (.deferred none))
        have HQ := Lib.hid (And.intro (hO5.flat (S' := fun _ => True) par_flat hkF (fun k hk e => by cases e; have := own_cells hO5 D hk _ hD5; cases this)).here (q2.trans (hkF.below q2.size (fun k e => by cases e; omega))))
        obtain ⟨s0, s1, s2, s3, s4⟩ := fin5_cells hB9 g n V a6 L.length c6
        have hlf : w.heap.size + 1 < (fin5 W9' (w.heap.size + 1) g n V a6 L.length c6).heap.size := by have := hB9.sz; have := hk5.size; omega
        have t0 := (hkF.cell (p := ⟨w.heap.size + 1, 0, none⟩) hlf (by simp only [Option.some.injEq]; omega)).trans s0
        have t1 := (hkF.cell (p := ⟨w.heap.size + 1, 1, none⟩) hlf (by simp only [Option.some.injEq]; omega)).trans s1
        have t2 := (hkF.cell (p := ⟨w.heap.size + 1, 2, none⟩) hlf (by simp only [Option.some.injEq]; omega)).trans s2
        have t3 := (hkF.cell (p := ⟨w.heap.size + 1, 3, none⟩) hlf (by simp only [Option.some.injEq]; omega)).trans s3
        have t4 := (hkF.cell (p := ⟨w.heap.size + 1, 4, none⟩) hlf (by simp only [Option.some.injEq]; omega)).trans s4
        have HT := Lib.hid (And.intro t0 (And.intro t1 (And.intro t2 (And.intro t3 t4))))
        have HD5 := Lib.hid hD5
        clear q1 q2 hO9 hO5 hk5 hkF hD5 hD9 s0 s1 s2 s3 s4 t0 t1 t2 t3 t4
        go_wp2_with fail
        refine ⟨by simp, .inl ⟨_, _, rfl, run_takeDeferred HD5.out, ?_⟩⟩
        obtain ⟨t0, t1, t2, t3, t4⟩ := HT.out
        unfold fin5 at t0 t1 t2 t3 t4
        refine ⟨propV g n a6 L.length c6 V none 0 0, ?_, ?_⟩
        · simp [results, Tryd.f20, go_sem, t0, t1, t2, t3, t4, propV]
        · rw [HR2.out]; exact ⟨a6, c6, rfl, HQ.out.1, HQ.out.2⟩
end Go.Proofs.YtcfbmfcobpfcjaaDoor
