/- The law's sides are laid; the program's. -/
import Derived.Test.YtefefpiealknlaaGreatDoorMd12
import Derived.Test.YtefefpiealknlaaGreatDoorOrdTail
import Derived.Deep.CutBlock
import Derived.Deep.CutRange
import Derived.IntWalk
namespace Lift
open Go Go.RowKit
theorem act_mid {a a0 : Act} {L : List Value} (lo m : Nat) (h0 : a0.tmps = L.toArray) (hlm : lo + m ≤ L.length) (htm : a.tmps.size = a0.tmps.size) (hdf : a.defers = a0.defers) (hr : ∀ t, (t < lo ∨ lo + m ≤ t) → a.tmps.getD t undef = a0.tmps.getD t undef) :
    a = { tmps := (L.take lo ++ ((List.range m).map (fun i => a.tmps.getD (lo + i) undef) ++ L.drop (lo + m))).toArray, defers := a0.defers } := by
  have hsz : a.tmps.size = L.length := by rw [htm, h0]; simp
  suffices ht : a.tmps = (L.take lo ++ ((List.range m).map (fun i => a.tmps.getD (lo + i) undef) ++ L.drop (lo + m))).toArray by
    rw [← hdf]
    obtain ⟨tm, df⟩ := a
    exact congrArg (fun x => Act.mk x df) ht
  apply Array.ext_getElem?
  intro t
  by_cases ht : t < L.length
  · have hget : ∀ (x : Array Value), x.size = L.length → x[t]? = some (x.getD t undef) := fun x hx => by
      rw [Array.getD_eq_getD_getElem?, Array.getElem?_eq_getElem (by omega)]; rfl
    rw [hget _ hsz]
    by_cases h1 : t < lo
    · have := hr t (.inl h1)
      rw [this, h0, Array.getD_eq_getD_getElem?]
      simp only [List.getElem?_toArray]
      rw [List.getElem?_append_left (by simp; omega), List.getElem?_take_of_lt h1, List.getElem?_eq_getElem ht]
      rfl
    · by_cases h2 : t < lo + m
      · simp only [List.getElem?_toArray]
        rw [List.getElem?_append_right (by simp; omega), List.length_take, Nat.min_eq_left (by omega), List.getElem?_append_left (by simp; omega)]
        rw [List.getElem?_map, List.getElem?_range (by omega)]
        simp only [Option.map_some]
        rw [show lo + (t - lo) = t by omega]
      · have := hr t (.inr (by omega))
        rw [this, h0, Array.getD_eq_getD_getElem?]
        simp only [List.getElem?_toArray]
        rw [List.getElem?_append_right (by simp; omega), List.length_take, Nat.min_eq_left (by omega), List.getElem?_append_right (by simp; omega)]
        simp only [List.length_map, List.length_range, List.getElem?_drop]
        rw [show lo + m + (t - lo - m) = t by omega, List.getElem?_eq_getElem ht]
        rfl
  · rw [Array.getElem?_eq_none (by omega), Array.getElem?_eq_none (by simp; omega)]
end Lift
namespace Go.Proofs.YtefefpiealknlaaGreatDoor
open Go.RowKit Lift
set_option linter.unusedSimpArgs false
set_option linter.unusedVariables false

theorem empty_iff2 (s : ByteArray) : s.toList.isEmpty = decide (s.size = 0) := by
  rw [Lib.toList_data]
  cases h : s.data.toList with
  | nil => have := Lib.size_eq s; rw [h, List.length_nil] at this; simp [this]
  | cons a t => have := Lib.size_eq s; rw [h, List.length_cons] at this; simp [this]
theorem mkE_ok {k : Nat} {t : ByteArray} (hk : k ≤ 64) (ht : t.size ≤ maxTx) : okEnt (mkE k t) := by
  refine ⟨Wf.of ?_ ?_, Wf.of ?_ ?_, Wf.of ?_ ?_, ht⟩ <;> (simp only [mkE]; omega)
theorem mkR_ok {k : Nat} {t : ByteArray} (hk : k ≤ 64) (ht : t.size ≤ maxTx) : okRec (mkR k t) := by
  refine okRec_mk (Wf.of ?_ ?_) (Wf.of ?_ ?_) ht (Wf.of ?_ ?_) (Wf.of ?_ ?_) ht (Wf.of ?_ ?_) (by unfold maxTx; decide) <;> omega
theorem lt13 {i : Nat} (h : i < 13) : i = 0 ∨ i = 1 ∨ i = 2 ∨ i = 3 ∨ i = 4 ∨ i = 5 ∨ i = 6 ∨ i = 7 ∨ i = 8 ∨ i = 9 ∨ i = 10 ∨ i = 11 ∨ i = 12 := by omega
theorem pend_no (l : List ByteArray) {ea ra : Option Addr} {ec rc : Nat} : pendB { e := entsOf l, g := [], p := [], r := recsOf l, ea := ea, ga := none, pa := none, ra := ra, ec := ec, gc := 0, pc := 0, rc := rc } = false := by
  unfold pendB
  have h1 : (entsOf l).any (fun c => decide (0 < c.2.1)) = false := by
    rw [List.any_eq_false]
    intro c hc
    obtain ⟨i, hi⟩ := List.mem_iff_getElem?.1 hc
    simp [entsOf] at hi
    obtain ⟨t, _, rfl⟩ := hi
    simp [mkE]
  have h2 : (recsOf l).any (fun c => dueI c != 0) = false := by
    rw [List.any_eq_false]
    intro c hc
    obtain ⟨i, hi⟩ := List.mem_iff_getElem?.1 hc
    obtain ⟨t, _, rfl⟩ := recsOf_inv hi
    have : ¬ ((i : Int) + 1 = 0) := by omega
    simp [mkR, dueI, this]
  simp [h1, h2]
/-- What stands in the slots of the first append. -/
def RE (bs b o cap n k : Nat) (t : ByteArray) (ve : Value) (B : Nat) (i : Nat) (v : Value) (w : World) : Prop :=
  match i with
  | 0 => v = .pointer (some ⟨bs, 0, none⟩)
  | 1 => v = ve
  | 2 | 4 | 8 => v = .int .i64 k
  | 3 => v = .int .i64 ((k : Int) + 1)
  | 5 => v = .int .i64 (2 * (k : Int))
  | 6 => v = .int .i64 (2 * (k : Int) + 1)
  | 7 => v = .slice (some ⟨b, o, none⟩) n cap
  | 9 => v = .pointer (some ⟨b, o + k, none⟩)
  | 10 => v = .string t
  | 11 => v = .agg #[.int .i64 ((k : Int) + 1), .int .i64 0, .int .i64 (2 * (k : Int) + 1), .string t]
  | 12 => ∃ g, v = .slice (some ⟨g, 0, none⟩) 1 1 ∧ B ≤ g ∧ w.heap[g]? = some (.cells #[.int .i64 ((k : Int) + 1), .int .i64 0, .int .i64 (2 * (k : Int) + 1), .string t] 30 (0, 0))
  | _ => False
def RR (bs b o cap n k : Nat) (t : ByteArray) (vr : Value) (B : Nat) (i : Nat) (v : Value) (w : World) : Prop :=
  match i with
  | 0 => v = .pointer (some ⟨bs, 3, none⟩)
  | 1 => v = vr
  | 2 | 5 | 9 | 12 | 14 | 18 => v = .int .i64 k
  | 3 | 6 | 15 => v = .int .i64 (2 * (k : Int))
  | 4 => v = .int .i64 (2 * (k : Int) + 3)
  | 7 | 16 => v = .int .i64 (2 * (k : Int) + 1)
  | 8 | 17 => v = .slice (some ⟨b, o, none⟩) n cap
  | 10 | 19 => v = .pointer (some ⟨b, o + k, none⟩)
  | 11 | 20 => v = .string t
  | 13 => v = .int .i64 ((k : Int) + 1)
  | 21 => v = .agg #[.int .i64 (2 * (k : Int) + 3), .bool true, .int .i64 (2 * (k : Int) + 1), .string t, .int .i64 ((k : Int) + 1), .int .i64 (2 * (k : Int) + 1), .string t, .int .i64 0, .string ⟨#[]⟩]
  | 22 => ∃ g, v = .slice (some ⟨g, 0, none⟩) 1 1 ∧ B ≤ g ∧ w.heap[g]? = some (.cells #[.int .i64 (2 * (k : Int) + 3), .bool true, .int .i64 (2 * (k : Int) + 1), .string t, .int .i64 ((k : Int) + 1), .int .i64 (2 * (k : Int) + 1), .string t, .int .i64 0, .string ⟨#[]⟩] 32 (0, 0))
  | _ => False
theorem lt23 {i : Nat} (h : i < 23) : i = 0 ∨ i = 1 ∨ i = 2 ∨ i = 3 ∨ i = 4 ∨ i = 5 ∨ i = 6 ∨ i = 7 ∨ i = 8 ∨ i = 9 ∨ i = 10 ∨ i = 11 ∨ i = 12 ∨ i = 13 ∨ i = 14 ∨ i = 15 ∨ i = 16 ∨ i = 17 ∨ i = 18 ∨ i = 19 ∨ i = 20 ∨ i = 21 ∨ i = 22 := by omega
theorem lt26 {i : Nat} (h : i < 26) : i = 0 ∨ i = 1 ∨ i = 2 ∨ i = 3 ∨ i = 4 ∨ i = 5 ∨ i = 6 ∨ i = 7 ∨ i = 8 ∨ i = 9 ∨ i = 10 ∨ i = 11 ∨ i = 12 ∨ i = 13 ∨ i = 14 ∨ i = 15 ∨ i = 16 ∨ i = 17 ∨ i = 18 ∨ i = 19 ∨ i = 20 ∨ i = 21 ∨ i = 22 ∨ i = 23 ∨ i = 24 ∨ i = 25 := by omega
/-- What the law's loop keeps. -/
structure LI (w : World) (bs : Nat) (l : List ByteArray) (k : Nat) (ve vr : Value) (wr : World) : Prop where
  blk : wr.heap[bs]? = some (.cells #[ve, .slice none 0 0, .slice none 0 0, vr] 28 (0, 0))
  oe : Lift.Own rEnt (fun _ => True) wr (bs + 1) 30 ve (entsOf (l.take k))
  orr : Lift.Own rRec (fun _ => True) wr (bs + 1) 32 vr (recsOf (l.take k))
  ap : ∀ j, ve.ownBlock = some j → vr.ownBlock ≠ some j
  below : Below w.heap.size w wr
  sm : ∀ t ∈ l.take k, t.size ≤ 500
  le : w.heap.size ≤ bs
/-- .. behind the first append. -/
structure LE (w : World) (bs : Nat) (l : List ByteArray) (k : Nat) (t : ByteArray) (ve vr : Value) (wr : World) : Prop where
  blk : wr.heap[bs]? = some (.cells #[ve, .slice none 0 0, .slice none 0 0, vr] 28 (0, 0))
  oe : Lift.Own rEnt (fun _ => True) wr (bs + 1) 30 ve (entsOf (l.take k) ++ [mkE k t])
  orr : Lift.Own rRec (fun _ => True) wr (bs + 1) 32 vr (recsOf (l.take k))
  ap : ∀ j, ve.ownBlock = some j → vr.ownBlock ≠ some j
  below : Below w.heap.size w wr
theorem lt16 {i : Nat} (h : i < 16) : i = 0 ∨ i = 1 ∨ i = 2 ∨ i = 3 ∨ i = 4 ∨ i = 5 ∨ i = 6 ∨ i = 7 ∨ i = 8 ∨ i = 9 ∨ i = 10 ∨ i = 11 ∨ i = 12 ∨ i = 13 ∨ i = 14 ∨ i = 15 := by omega
theorem ent_info0 : ∃ i0, Tryz.prog.info? 30 = some i0 ∧ i0.zero = some (.agg #[.int .i64 0, .int .i64 0, .int .i64 0, .string ByteArray.empty]) ∧ i0.size = 4 ∧ i0.bytes = 40 := info_parts ent_info
set_option maxHeartbeats 8000000 in
set_option maxRecDepth 100000 in
theorem law_stays (ao : Option Addr) (cap : Nat) (l : List ByteArray) (by' : Int) (wa : (Lit.int .i64 by').wf = true) (slow : Bool) (w : World) (h : SlArg Rd.str w ao cap l) :
    Calls Tryz.prog 3 #[.slice ao l.length cap, .int .i64 by', .bool slow] w (TruePost w) := by
  have hl := h.at'
  have hll := Nat.le_trans h.le h.max
  unfold maxLen at hll
  clear h wa
  by_cases h64 : l.length ≤ 64
  · have hd64 : decide ((64 : Int) < (l.length : Int)) = false := by simp; omega
    have HC := Lib.hid (works_any w)
    go_enter Tryz.func3, Tryz.ntmps3
    go_wp2_with fail
    refine HC.out.mono ?_
    rintro e w1 ⟨rfl, hb1⟩
    obtain ⟨W2, hW2⟩ : ∃ x, w1.alloc (.cells #[.slice none 0 0, .slice none 0 0, .slice none 0 0, .slice none 0 0] 28) = x := ⟨_, rfl⟩
    have hb2 : Below w1.heap.size w1 W2 := by rw [← hW2]; exact (Below.refl _ _).alloc (Nat.le_refl _) _
    have HI0 := Lib.hid (show LI w w1.heap.size l 0 (.slice none 0 0) (.slice none 0 0) W2 from
      { blk := by rw [← hW2]; exact heap_alloc_new _ _
        oe := by simpa [entsOf] using Own.nil rEnt (fun _ => True) W2 (w1.heap.size + 1) 30
        orr := by simpa [recsOf] using Own.nil rRec (fun _ => True) W2 (w1.heap.size + 1) 32
        ap := fun j h => by cases h
        below := chain hb1 hb2
        sm := by simp
        le := hb1.size })
    have HW2 := Lib.hid hW2
    clear hb2 hW2 HC
    go_upto_region 6 with fail
    rw [HW2.out]
    go_wp2_with fail
    go_loopw [8] (fun v8 wr => ∃ (k : Nat) (ve vr : Value), k ≤ l.length ∧ v8 = .int .i64 k ∧ Hid (LI w w1.heap.size l k ve vr wr)) (fun v8 _ => l.length - (intOf v8).toNat)
    case atStart => exact ⟨0, _, _, by omega, rfl, HI0⟩
    case round =>
      obtain ⟨k, ve, vr, hk, rfl, hI⟩ := hrel
      clear HI0
      by_cases hkl : k < l.length
      · obtain ⟨t, htl⟩ := some_at hkl
        have hkl2 : (k : Int) < (l.length : Int) := by omega
        obtain ⟨b, o, rfl, hbw, hbl, hts, y0⟩ := str_get (hl.old hI.out.below) htl
        by_cases ht0 : t.size = 0
        · have hd0 : t.toList.isEmpty = true := by rw [empty_iff2]; simpa using ht0
          go_wp2_with fail
          all_goals
            go_ret
            exact ⟨rfl, hI.out.below⟩
        · have hd0 : t.toList.isEmpty = false := by rw [empty_iff2]; simpa using ht0
          by_cases ht5 : 500 < t.size
          · have hd5 : decide ((500 : Int) < (t.size : Int)) = true := by simp; omega
            go_wp2_with fail
            all_goals
              go_ret
              exact ⟨rfl, hI.out.below⟩
          · have hd5 : decide ((500 : Int) < (t.size : Int)) = false := by simp; omega
            have HTL := Lib.hid htl
            clear htl
            have hk64 : k ≤ 64 := by omega
            have hbs := (Array.getElem?_eq_some_iff.1 hI.out.blk).1
            have c0 := cell_of_row wr _ 0 _ _ _ hI.out.blk
            simp only [List.getElem?_toArray, List.getElem?_cons_zero] at c0
            have u1 : IntKind.i64.wrap ((k : Int) + 1) = (k : Int) + 1 := IntWalk.i64_in _ (by omega)
            have u2 : IntKind.i64.wrap (2 * (k : Int)) = 2 * (k : Int) := IntWalk.i64_in _ (by omega)
            have u3 : IntKind.i64.wrap (2 * (k : Int) + 1) = 2 * (k : Int) + 1 := IntWalk.i64_in _ (by omega)
            have U := Lib.hid (And.intro u1 (And.intro u2 u3))
            have C0 := Lib.hid (fun W (hb : Below wr.heap.size wr W) => show W.cell? ⟨w1.heap.size, 0, none⟩ = some ve ∧ W.cell? ⟨b, o + k, none⟩ = some (.string t) from ⟨(hb.cell (p := ⟨w1.heap.size, 0, none⟩) hbs).trans c0, (hb.cell (p := ⟨b, o + k, none⟩) hbl).trans y0⟩)
            clear u1 u2 u3
            go_upto_region 11 with fail
            go_cut [] from 18 to 76 (fun wx => ∃ ve', Hid (LE w w1.heap.size l k t ve' vr wx))
            case first =>
              refine wp_region_eachT (by kernel_rfl) 13 (by decide) (by kernel_rfl) (by kernel_rfl) (by kernel_rfl) (by kernel_rfl) (fun W => Below wr.heap.size wr W) (fun W W' => Below W.heap.size W W') (RE w1.heap.size b o cap l.length k t ve wr.heap.size) (fun i => 37 + i) ?hd ?inj ?hord ?mono ?hS0 ?hop ?hfin
              case inj => intro i j _ _ h; omega
              case hS0 => exact (Below.refl _ _).drew
              case hd =>
                intro i o hi ho
                rcases lt13 hi with rfl | rfl | rfl | rfl | rfl | rfl | rfl | rfl | rfl | rfl | rfl | rfl | rfl
                all_goals (cases ho; exact ⟨rfl, rfl, by simp⟩)
              case hord =>
                intro i o ho e he
                have hi : i < 16 := (List.getElem?_eq_some_iff.1 ho).1
                rcases lt16 hi with rfl | rfl | rfl | rfl | rfl | rfl | rfl | rfl | rfl | rfl | rfl | rfl | rfl | rfl | rfl | rfl
                all_goals (cases ho; exact all_before (by kernel_rfl) e he)
              case mono =>
                intro i v W W' h hE
                by_cases hi : i < 13
                · rcases lt13 hi with rfl | rfl | rfl | rfl | rfl | rfl | rfl | rfl | rfl | rfl | rfl | rfl | rfl
                  all_goals first
                    | exact h
                    | (obtain ⟨g, e1, e2, e3⟩ := h; exact ⟨g, e1, e2, (hE.block g (Array.getElem?_eq_some_iff.1 e3).1).trans e3⟩)
                · exfalso
                  obtain ⟨j, rfl⟩ : ∃ j, i = j + 13 := ⟨i - 13, by omega⟩
                  exact h
              case hop =>
                intro i o' hi ho a W hS hr he K hK
                have h0 : a.tmps[0]?.getD undef = .slice (some ⟨b, o, none⟩) l.length cap := by have := hr 0 (by intro j hj; show 37 + j ≠ 0; omega); simpa using this
                have h7 : a.tmps[7]?.getD undef = .pointer (some ⟨w1.heap.size, 0, none⟩) := by have := hr 7 (by intro j hj; show 37 + j ≠ 7; omega); simpa using this
                have h8 : a.tmps[8]?.getD undef = .int .i64 k := by have := hr 8 (by intro j hj; show 37 + j ≠ 8; omega); simpa using this
                obtain ⟨cc0, cc1⟩ := C0.out W hS
                obtain ⟨u1, u2, u3⟩ := U.out
                clear hr
                rcases lt13 hi with rfl | rfl | rfl | rfl | rfl | rfl | rfl | rfl | rfl | rfl | rfl | rfl | rfl
                all_goals (simp only [List.getElem?_cons_succ, List.getElem?_cons_zero, Option.some.injEq] at ho; subst ho; simp [RE, Region.binds] at he)
                all_goals (try (simp [go_sem, Oper.wp, execOp, Act.eval, he, h0, h7, h8, u1, u2, u3, cc0, cc1, hkl, hkl2]; exact hK _ _ hS (Below.refl _ _) rfl))
                · simp [go_sem, Oper.wp, execOp, Act.eval, he]
                  exact hK _ _ (hS.alloc hS.size _) ((Below.refl _ _).alloc (Nat.le_refl _) _) ⟨W.heap.size, rfl, hS.size, heap_alloc_new _ _⟩
              case hfin =>
                intro a W hS hdf htm hr hR
                have hm := act_mid 37 13 rfl (by simp) htm hdf (fun t ht => hr t (fun j hj => by show 37 + j ≠ t; omega))
                obtain ⟨x, hx⟩ : ∃ x : Nat → Value, (fun i => a.tmps.getD (37 + i) undef) = x := ⟨_, rfl⟩
                rw [hx] at hm
                have r1 : x 1 = ve := by rw [← hx]; exact hR 1 (by omega)
                obtain ⟨g, e1, e2, e3⟩ := hR 12 (by omega)
                have r12 : x 12 = .slice (some ⟨g, 0, none⟩) 1 1 := by rw [← hx]; exact e1
                clear e1 hx hR hr htm hdf
                subst hm
                rw [show List.range 13 = [0, 1, 2, 3, 4, 5, 6, 7, 8, 9, 10, 11, 12] from rfl]
                simp only [List.take_succ_cons, List.take_zero, List.drop_succ_cons, List.drop_zero, List.cons_append, List.nil_append, List.map_cons, List.map_nil, r1, r12]
                clear r1 r12
                obtain ⟨i0, hi, hz0, hz1, hz2⟩ := ent_info0
                have HI := Lib.hid hi; have HZ0 := Lib.hid hz0; have HZ1 := Lib.hid hz1; have HZ2 := Lib.hid hz2
                have hOE := hI.out.oe.below hS
                have hOR := hI.out.orr.below hS
                have hgz := (Array.getElem?_eq_some_iff.1 e3).1
                have hsl : SlAt rEnt (fun j => True ∧ some j ≠ ve.ownBlock) W (some ⟨g, 0, none⟩) [mkE k t] := by
                  refine SlAt.of_cells (xs := cellsEnt (mkE k t)) ⟨trivial, fun e => by have := (hI.out.oe.lt g e.symm).2; omega⟩ hgz ?_ (by simpa using (RowsOf.nil rEnt _ W).snoc (ent_rel _ W (mkE k t) (mkE_ok hk64 hts)))
                  intro i v hi
                  match i, hi with
                  | 0, hi => simp [cellsEnt, mkE] at hi; subst hi; exact cell_of_row W _ 0 _ _ _ e3
                  | 1, hi => simp [cellsEnt, mkE] at hi; subst hi; exact cell_of_row W _ 1 _ _ _ e3
                  | 2, hi => simp [cellsEnt, mkE] at hi; subst hi; exact cell_of_row W _ 2 _ _ _ e3
                  | 3, hi => simp [cellsEnt, mkE] at hi; subst hi; exact cell_of_row W _ 3 _ _ _ e3
                  | i + 4, hi => simp [cellsEnt] at hi
                have hblk := (hS.block _ hbs).trans hI.out.blk
                have hlenE : (entsOf (l.take k)).length ≤ 64 := by rw [entsOf_len, List.length_take]; omega
                have hSz := hS.size
                refine wpList_pushAll rEnt rfl (.tmp 38) (.tmp 49) 24 rfl (w1.heap.size + 1) 30 i0 _ 40 Tryz.underlying24 HI.out HZ0.out HZ1.out HZ2.out rfl (by decide) (fun _ => True) ve (entsOf (l.take k)) rfl hOE (some ⟨g, 0, none⟩) 1 [mkE k t] rfl (by intro h; cases h) hsl ent_one (by unfold maxLen; simp; omega) (by simp; omega) (by omega) ?_
                intro v2 w2 hO2 hK2 hw2
                obtain ⟨a2, p2, rfl⟩ := hO2.form
                have hvb : ∀ j, some j = ve.ownBlock → w1.heap.size + 1 ≤ j ∧ j < wr.heap.size := fun j hj => hI.out.oe.lt j hj.symm
                have hrb : ∀ j, vr.ownBlock = some j → w1.heap.size + 1 ≤ j ∧ j < wr.heap.size := fun j hj => hI.out.orr.lt j hj
                have hblk2 := (hK2.block _ (by omega) (fun e => by have := (hvb _ e).1; omega)).trans hblk
                have y0 := cell_of_row w2 _ 0 _ _ _ hblk2
                have yf := frozen_of_row w2 _ 0 _ _ hblk2
                have hK3 := Kept.setCell (X := fun j => j = w1.heap.size) w2 (p := ⟨w1.heap.size, 0, none⟩) rfl (.slice a2 (entsOf (l.take k) ++ [mkE k t]).length p2)
                have HF := Lib.hid (show LE w w1.heap.size l k t (.slice a2 (entsOf (l.take k) ++ [mkE k t]).length p2) vr (w2.setCell ⟨w1.heap.size, 0, none⟩ (.slice a2 (entsOf (l.take k) ++ [mkE k t]).length p2)) from
                  { blk := heap_setCell_same w2 w1.heap.size 0 _ _ _ hblk2
                    oe := hO2.flat ent_flat hK3 (fun j e h => by have := (hO2.lt j e).1; omega)
                    orr := (hOR.flat (S' := fun _ => True) rec_flat hK2 (fun j e h => hI.out.ap j h.symm e)).flat rec_flat hK3 (fun j e h => by have := (hrb j e).1; omega)
                    ap := fun j e h => by
                      have h1 := hrb j h
                      rcases hw2 with hw | ⟨g2, hw, hg2⟩
                      · rw [hw] at e; exact hI.out.ap j e h
                      · rw [hw] at e; injection e with e; omega
                    below := (hI.out.below.trans (hS.mono hI.out.below.size)).trans ((hK2.below (B := w.heap.size) (by have := hI.out.below.size; omega) (fun j e => by have := (hvb j e).1; have := hI.out.le; omega)).trans (hK3.below (by have := hI.out.below.size; have := hK2.size; omega) (fun j e => by have := hI.out.le; omega))) })
                rw [List.length_append] at HF
                clear hK3 hblk hblk2 hOE hOR hO2 hK2 hw2 hi hz0 hz1 hz2 hsl e3
                go_wp2_with fail
                go_meet
                case rel => exact ⟨_, HF⟩
            case rest =>
              obtain ⟨ve8, HE⟩ := hcut
              obtain ⟨W8, rfl⟩ : ∃ x : World, x = wc := ⟨_, rfl⟩
              have y00 : w.cell? ⟨b, o + k, none⟩ = some (.string t) := (hI.out.below.cell (p := ⟨b, o + k, none⟩) hbw).symm.trans y0
              have hbs8 := (Array.getElem?_eq_some_iff.1 HE.out.blk).1
              have c8 := cell_of_row W8 _ 3 _ _ _ HE.out.blk
              simp only [List.getElem?_toArray, List.getElem?_cons_zero, List.getElem?_cons_succ] at c8
              have y8 := (HE.out.below.cell (p := ⟨b, o + k, none⟩) hbw).trans y00
              have hbl8 : b < W8.heap.size := by have := HE.out.below.size; omega
              have C8 := Lib.hid (fun W (hb : Below W8.heap.size W8 W) => show W.cell? ⟨w1.heap.size, 3, none⟩ = some vr ∧ W.cell? ⟨b, o + k, none⟩ = some (.string t) from ⟨(hb.cell (p := ⟨w1.heap.size, 3, none⟩) hbs8).trans c8, (hb.cell (p := ⟨b, o + k, none⟩) hbl8).trans y8⟩)
              have U4 := Lib.hid (And.intro U.out.1 (And.intro U.out.2.1 (And.intro U.out.2.2 (show IntKind.i64.wrap (2 * (k : Int) + 3) = 2 * (k : Int) + 3 from IntWalk.i64_in _ (by omega)))))
              clear y00 c8 y8 y0 c0
              go_upto_region 12 with fail
              refine wp_region_eachT (by kernel_rfl) 23 (by decide) (by kernel_rfl) (by kernel_rfl) (by kernel_rfl) (by kernel_rfl) (fun W => Below W8.heap.size W8 W) (fun W W' => Below W.heap.size W W') (RR w1.heap.size b o cap l.length k t vr W8.heap.size) (fun i => 52 + i) ?hd ?inj ?hord ?mono ?hS0 ?hop ?hfin
              case inj => intro i j _ _ h; omega
              case hS0 => exact (Below.refl _ _).drew
              case hd =>
                intro i o hi ho
                rcases lt23 hi with rfl | rfl | rfl | rfl | rfl | rfl | rfl | rfl | rfl | rfl | rfl | rfl | rfl | rfl | rfl | rfl | rfl | rfl | rfl | rfl | rfl | rfl | rfl
                all_goals (cases ho; exact ⟨rfl, rfl, by simp⟩)
              case hord =>
                intro i o ho e he
                have hi : i < 26 := (List.getElem?_eq_some_iff.1 ho).1
                rcases lt26 hi with rfl | rfl | rfl | rfl | rfl | rfl | rfl | rfl | rfl | rfl | rfl | rfl | rfl | rfl | rfl | rfl | rfl | rfl | rfl | rfl | rfl | rfl | rfl | rfl | rfl | rfl
                all_goals (cases ho; exact all_before (by kernel_rfl) e he)
              case mono =>
                intro i v W W' h hE
                by_cases hi : i < 23
                · rcases lt23 hi with rfl | rfl | rfl | rfl | rfl | rfl | rfl | rfl | rfl | rfl | rfl | rfl | rfl | rfl | rfl | rfl | rfl | rfl | rfl | rfl | rfl | rfl | rfl
                  all_goals first
                    | exact h
                    | (obtain ⟨g, e1, e2, e3⟩ := h; exact ⟨g, e1, e2, (hE.block g (Array.getElem?_eq_some_iff.1 e3).1).trans e3⟩)
                · exfalso
                  obtain ⟨j, rfl⟩ : ∃ j, i = j + 23 := ⟨i - 23, by omega⟩
                  exact h
              case hop =>
                intro i o' hi ho a W hS hr he K hK
                have h0 : a.tmps[0]?.getD undef = .slice (some ⟨b, o, none⟩) l.length cap := by have := hr 0 (by intro j hj; show 52 + j ≠ 0; omega); simpa using this
                have h7 : a.tmps[7]?.getD undef = .pointer (some ⟨w1.heap.size, 0, none⟩) := by have := hr 7 (by intro j hj; show 52 + j ≠ 7; omega); simpa using this
                have h8 : a.tmps[8]?.getD undef = .int .i64 k := by have := hr 8 (by intro j hj; show 52 + j ≠ 8; omega); simpa using this
                obtain ⟨cc0, cc1⟩ := C8.out W hS
                obtain ⟨u1, u2, u3, u4'⟩ := U4.out
                clear hr
                rcases lt23 hi with rfl | rfl | rfl | rfl | rfl | rfl | rfl | rfl | rfl | rfl | rfl | rfl | rfl | rfl | rfl | rfl | rfl | rfl | rfl | rfl | rfl | rfl | rfl
                all_goals (simp only [List.getElem?_cons_succ, List.getElem?_cons_zero, Option.some.injEq] at ho; subst ho; simp [RR, Region.binds] at he)
                all_goals (try (simp [go_sem, Oper.wp, execOp, Act.eval, he, h0, h7, h8, u1, u2, u3, u4', cc0, cc1, hkl, hkl2]; exact hK _ _ hS (Below.refl _ _) rfl))
                · simp [go_sem, Oper.wp, execOp, Act.eval, he]
                  exact hK _ _ (hS.alloc hS.size _) ((Below.refl _ _).alloc (Nat.le_refl _) _) ⟨W.heap.size, rfl, hS.size, heap_alloc_new _ _⟩
              case hfin =>
                intro a W hS hdf htm hr hR
                have hm := act_mid 52 23 rfl (by simp) htm hdf (fun t ht => hr t (fun j hj => by show 52 + j ≠ t; omega))
                obtain ⟨x, hx⟩ : ∃ x : Nat → Value, (fun i => a.tmps.getD (52 + i) undef) = x := ⟨_, rfl⟩
                rw [hx] at hm
                have r1 : x 1 = vr := by rw [← hx]; exact hR 1 (by omega)
                obtain ⟨g, e1, e2, e3⟩ := hR 22 (by omega)
                have r12 : x 22 = .slice (some ⟨g, 0, none⟩) 1 1 := by rw [← hx]; exact e1
                clear e1 hx hR hr htm hdf
                subst hm
                rw [show List.range 23 = [0, 1, 2, 3, 4, 5, 6, 7, 8, 9, 10, 11, 12, 13, 14, 15, 16, 17, 18, 19, 20, 21, 22] from rfl]
                simp only [List.take_succ_cons, List.take_zero, List.drop_succ_cons, List.drop_zero, List.cons_append, List.nil_append, List.map_cons, List.map_nil, r1, r12]
                clear r1 r12
                obtain ⟨i0, hi, hz0, hz1, hz2⟩ := rec_info0
                have HI := Lib.hid hi; have HZ0 := Lib.hid hz0; have HZ1 := Lib.hid hz1; have HZ2 := Lib.hid hz2
                have hOE := HE.out.oe.below hS
                have hOR := HE.out.orr.below hS
                have hgz := (Array.getElem?_eq_some_iff.1 e3).1
                have hsl : SlAt rRec (fun j => True ∧ some j ≠ vr.ownBlock) W (some ⟨g, 0, none⟩) [mkR k t] := by
                  refine SlAt.of_cells (xs := cellsRec (mkR k t)) ⟨trivial, fun e => by have := (HE.out.orr.lt g e.symm).2; omega⟩ hgz ?_ (by simpa using (RowsOf.nil rRec _ W).snoc (rec_rel _ W (mkR k t) (mkR_ok hk64 hts)))
                  intro i v hi
                  match i, hi with
                  | 0, hi => simp [cellsRec, mkR] at hi; subst hi; exact cell_of_row W _ 0 _ _ _ e3
                  | 1, hi => simp [cellsRec, mkR] at hi; subst hi; exact cell_of_row W _ 1 _ _ _ e3
                  | 2, hi => simp [cellsRec, mkR] at hi; subst hi; exact cell_of_row W _ 2 _ _ _ e3
                  | 3, hi => simp [cellsRec, mkR] at hi; subst hi; exact cell_of_row W _ 3 _ _ _ e3
                  | 4, hi => simp [cellsRec, mkR] at hi; subst hi; exact cell_of_row W _ 4 _ _ _ e3
                  | 5, hi => simp [cellsRec, mkR] at hi; subst hi; exact cell_of_row W _ 5 _ _ _ e3
                  | 6, hi => simp [cellsRec, mkR] at hi; subst hi; exact cell_of_row W _ 6 _ _ _ e3
                  | 7, hi => simp [cellsRec, mkR] at hi; subst hi; exact cell_of_row W _ 7 _ _ _ e3
                  | 8, hi => simp [cellsRec, mkR] at hi; subst hi; exact cell_of_row W _ 8 _ _ _ e3
                  | i + 9, hi => simp [cellsRec] at hi
                have hblk := (hS.block _ hbs8).trans HE.out.blk
                have hlenE : (recsOf (l.take k)).length ≤ 64 := by rw [recsOf_len, List.length_take]; omega
                have hSz := hS.size
                refine wpList_pushAll rRec rfl (.tmp 53) (.tmp 74) 26 rfl (w1.heap.size + 1) 32 i0 _ 96 Tryz.underlying26 HI.out HZ0.out HZ1.out HZ2.out rfl (by decide) (fun _ => True) vr (recsOf (l.take k)) rfl hOR (some ⟨g, 0, none⟩) 1 [mkR k t] rfl (by intro h; cases h) hsl rec_one (by unfold maxLen; simp; omega) (by simp; omega) (by omega) ?_
                intro v2 w2 hO2 hK2 hw2
                obtain ⟨a2, p2, rfl⟩ := hO2.form
                have hvb : ∀ j, some j = ve8.ownBlock → w1.heap.size + 1 ≤ j ∧ j < W8.heap.size := fun j hj => HE.out.oe.lt j hj.symm
                have hrb : ∀ j, some j = vr.ownBlock → w1.heap.size + 1 ≤ j ∧ j < W8.heap.size := fun j hj => HE.out.orr.lt j hj.symm
                have hblk2 := (hK2.block _ (by omega) (fun e => by have := (hrb _ e).1; omega)).trans hblk
                have y0 := cell_of_row w2 _ 3 _ _ _ hblk2
                have yf := frozen_of_row w2 _ 3 _ _ hblk2
                have hK3 := Kept.setCell (X := fun j => j = w1.heap.size) w2 (p := ⟨w1.heap.size, 3, none⟩) rfl (.slice a2 (recsOf (l.take k) ++ [mkR k t]).length p2)
                have htk := take_at2 HTL.out
                have hlk : (l.take k).length = k := by rw [List.length_take]; omega
                have HF := Lib.hid (show LI w w1.heap.size l (k + 1) ve8 (.slice a2 (recsOf (l.take k) ++ [mkR k t]).length p2) (w2.setCell ⟨w1.heap.size, 3, none⟩ (.slice a2 (recsOf (l.take k) ++ [mkR k t]).length p2)) from
                  { blk := heap_setCell_same w2 w1.heap.size 3 _ _ _ hblk2
                    oe := by
                      rw [htk, entsOf_snoc, hlk]
                      exact (hOE.flat (S' := fun _ => True) ent_flat hK2 (fun j e h => HE.out.ap j e h.symm)).flat ent_flat hK3 (fun j e h => by have := (hvb j e.symm).1; omega)
                    orr := by
                      rw [htk, recsOf_snoc, hlk]
                      exact hO2.flat rec_flat hK3 (fun j e h => by have := (hO2.lt j e).1; omega)
                    ap := fun j e h => by
                      have h1 := hvb j e.symm
                      rcases hw2 with hw | ⟨g2, hw, hg2⟩
                      · rw [hw] at h; exact HE.out.ap j e h
                      · rw [hw] at h; injection h with h; omega
                    below := (HE.out.below.trans (hS.mono HE.out.below.size)).trans ((hK2.below (B := w.heap.size) (by have := HE.out.below.size; omega) (fun j e => by have := (hrb j e).1; have := hI.out.le; omega)).trans (hK3.below (by have := HE.out.below.size; have := hK2.size; omega) (fun j e => by have := hI.out.le; omega)))
                    sm := by
                      rw [htk]
                      intro t' ht'
                      rcases List.mem_append.1 ht' with h | h
                      · exact hI.out.sm t' h
                      · simp at h; subst h; omega
                    le := hI.out.le })
                rw [List.length_append] at HF
                clear hK3 hblk hblk2 hOE hOR hO2 hK2 hw2 hi hz0 hz1 hz2 hsl e3 htk hlk
                go_wp2_with fail
                go_roundw
                case measure => simp [intOf]; omega
                case rel => exact ⟨k + 1, ve8, _, by omega, by go_num, HF⟩
      · obtain rfl : k = l.length := by omega
        obtain ⟨WL, rfl⟩ : ∃ x : World, x = wr := ⟨_, rfl⟩
        have hsm := hI.out.sm
        have hoe := hI.out.oe
        have hor := hI.out.orr
        have hblk := hI.out.blk
        have hbel := hI.out.below
        rw [List.take_length] at hsm hoe hor
        obtain ⟨ea, ec, rfl⟩ := hoe.form
        obtain ⟨ra, rc, rfl⟩ := hor.form
        have hbs := (Array.getElem?_eq_some_iff.1 hblk).1
        have hs : SdOk WL.heap.size WL { e := entsOf l, g := [], p := [], r := recsOf l, ea := ea, ga := none, pa := none, ra := ra, ec := ec, gc := 0, pc := 0, rc := rc } :=
          { e := hoe.here, g := .inl rfl, p := .inl rfl, r := hor.here, el := by rw [entsOf_len]; omega, gl := by simp, pl := by simp, rl := by rw [recsOf_len]; omega }
        have hT := texts_any _ WL hs
        rw [texts_ents, texts_recs] at hT
        have hE := fun wx (hb : Below WL.heap.size WL wx) => expect_stay l (by omega) hsm _ wx ((hs.old hb).up hb.size) rfl rfl rfl rfl by' slow
        have hP := fun wx (hb : Below WL.heap.size WL wx) => pending_any _ wx ((hs.old hb).up hb.size)
        rw [pend_no l] at hP
        unfold sdV at hT hE hP
        simp only [List.length_nil] at hT hE hP
        have HT := Lib.hid hT
        have HE := Lib.hid hE
        have HP := Lib.hid hP
        have c0 := cell_of_row WL _ 0 _ _ _ hblk
        have c1 := cell_of_row WL _ 1 _ _ _ hblk
        have c2 := cell_of_row WL _ 2 _ _ _ hblk
        have c3 := cell_of_row WL _ 3 _ _ _ hblk
        simp only [List.getElem?_toArray, List.getElem?_cons_zero, List.getElem?_cons_succ] at c0 c1 c2 c3
        have HBL := Lib.hid hbel
        have HSB := Lib.hid (sortB_len l)
        have hsl : (sortB l).length ≤ 64 := by rw [sortB_len]; exact h64
        clear hI hs hoe hor hblk hbel hT hE hP hsm
        go_wp2_with fail
        refine HT.out.mono ?_
        rintro e w2 ⟨va, vb, rfl, hOa, hOb, hb2⟩
        have c0 := (hb2.cell (p := ⟨w1.heap.size, 0, none⟩) hbs).trans c0
        have c1 := (hb2.cell (p := ⟨w1.heap.size, 1, none⟩) hbs).trans c1
        have c2 := (hb2.cell (p := ⟨w1.heap.size, 2, none⟩) hbs).trans c2
        have c3 := (hb2.cell (p := ⟨w1.heap.size, 3, none⟩) hbs).trans c3
        have hbs2 : w1.heap.size < w2.heap.size := by have := hb2.size; omega
        have HB2 := Lib.hid hb2
        obtain ⟨a1, p1, rfl⟩ := hOa.form
        obtain ⟨a2, p2, rfl⟩ := hOb.form
        have HOA := Lib.hid hOa.here
        have HOB := Lib.hid hOb.here
        clear hb2 hOa hOb
        go_wp2_with fail
        refine (HE.out _ HB2.out).mono ?_
        rintro e w3 ⟨vm, rfl, hOm, hb3⟩
        have c0 := (hb3.cell (p := ⟨w1.heap.size, 0, none⟩) hbs2).trans c0
        have c1 := (hb3.cell (p := ⟨w1.heap.size, 1, none⟩) hbs2).trans c1
        have c2 := (hb3.cell (p := ⟨w1.heap.size, 2, none⟩) hbs2).trans c2
        have c3 := (hb3.cell (p := ⟨w1.heap.size, 3, none⟩) hbs2).trans c3
        obtain ⟨a3, p3, rfl⟩ := hOm.form
        have HB3 := Lib.hid (chain HB2.out hb3)
        have HOA3 := Lib.hid (HOA.out.old hb3).here
        have HOB3 := Lib.hid (HOB.out.old hb3).here
        have HOM := Lib.hid hOm.here
        clear hb3 hOm HOA HOB
        go_wp2_with fail
        refine (HP.out _ HB3.out).mono ?_
        rintro e w4 ⟨rfl, hb4⟩
        have HS1 := Lib.hid (same_eq a1 a2 p1 p2 (sortB l).length (sortB l) (sortB l) w4 (HOA3.out.old hb4).here (HOB3.out.old hb4).here (by omega) rfl rfl)
        have HB4 := Lib.hid (chain HB3.out hb4)
        have HOA4 := Lib.hid (HOA3.out.old hb4).here
        have HOM4 := Lib.hid (HOM.out.old hb4).here
        clear hb4
        go_wp2_with fail
        refine HS1.out.mono ?_
        rintro e w5 ⟨rfl, hb5⟩
        have HS2 := Lib.hid (same_eq a3 a1 p3 p1 (sortB l).length (sortB l) (sortB l) w5 (HOM4.out.old hb5).here (HOA4.out.old hb5).here (by omega) rfl rfl)
        have HB5 := Lib.hid (chain HB4.out hb5)
        clear hb5
        go_wp2_with fail
        refine HS2.out.mono ?_
        rintro e w6 ⟨rfl, hb6⟩
        go_wp2_with fail
        go_ret
        exact ⟨rfl, chain (chain HBL.out HB5.out) hb6⟩
  · have hd64 : decide ((64 : Int) < (l.length : Int)) = true := by simp; omega
    have HC := Lib.hid (works_any w)
    go_enter Tryz.func3, Tryz.ntmps3
    go_wp2_with fail
    refine HC.out.mono ?_
    rintro e w1 ⟨rfl, hb1⟩
    go_wp2_with fail
    go_ret
    exact ⟨rfl, hb1⟩
end Go.Proofs.YtefefpiealknlaaGreatDoor
