/- PlateSure, walked. -/
import Derived.Test.YtbgdkpgegbkfkaaPlLaws
import Derived.Test.YtbgdkpgegbkfkaaPlTorn
namespace Go.Proofs.Ytbgdkpgegbkfkaa
open Go.RowKit Lift
set_option linter.unusedSimpArgs false
set_option linter.unusedVariables false

structure SInv (n : Nat) (st : St) (j : Nat) : Prop where
  good : Good st
  len : st.no.length = n
  lo : st.lo.length ≤ j
  fu : st.fu = -1
  off : st.off = false
theorem SInv.new (n : Nat) : SInv n (St.new n) 0 := ⟨Good.new n, by simp [St.new], by simp [St.new], rfl, rfl⟩
theorem SInv.burn {n : Nat} {st : St} {j : Nat} (h : SInv n st j) : burnS st = st ∧ burnE st = 0 := by
  unfold burnS burnE; rw [h.fu]; exact ⟨rfl, rfl⟩
theorem SInv.put {n : Nat} {st : St} {j : Nat} (h : SInv n st j) (x : Int) (s : ByteArray) : SInv n (putS st x s) (j + 1) := by
  refine ⟨h.good.put x s, ?_, ?_, ?_, ?_⟩ <;> unfold putS <;> rw [h.burn.1, h.burn.2]
  · split <;> (try split) <;> simp [h.len]
  · have := h.lo
    split <;> (try split) <;> simp <;> omega
  · split <;> (try split) <;> simp [h.fu]
  · split <;> (try split) <;> simp [h.off]
theorem SInv.mono {n : Nat} {st : St} {i j : Nat} (h : SInv n st i) (hij : i ≤ j) : SInv n st j := ⟨h.good, h.len, Nat.le_trans h.lo hij, h.fu, h.off⟩
theorem mod9 (a : Int) : ∃ i : Nat, i < 9 ∧ (IntKind.u64.wrap a).tmod 9 = (i : Int) := by
  obtain ⟨i, h1, _, h2, _⟩ := mod_index a 9 (by omega) (by omega)
  exact ⟨i, h1, h2⟩

theorem two_crash2 {base b1 b2 : Nat} {w4 w : World} {st1 st2 : St} (h : Two base w4 b1 st1 b2 st2) (hb : Below w4.heap.size w4 w) (hll : st1.lo.length ≤ 1000000000) (ko : Option Addr) (kcap : Nat) (keep : List Int) (n : Nat) (hn : n = keep.length) (hkl : keep.length ≤ 9223372036854775807) (hk : SlAt (Rd.int .i64) (fun k => w4.heap.size ≤ k) w ko keep) :
    Calls Try.prog 10 #[.pointer (some ⟨b1, 0, none⟩), .slice ko n kcap] w (fun e w' => e = .returned (.tuple #[]) ∧ Two base w' b1 (crashS st1 keep) b2 st2 ∧ Below base w w') := by
  subst hn
  obtain ⟨F1, F2, e1, e2, h1, h2, h3⟩ := h
  have r1 := h1.below hb
  have r2 := h2.below hb
  have hk2 : SlAt (Rd.int .i64) (fun b => ¬ foot F1 b) w ko keep := hk.mono (fun k hk _ hf => by have := h1.inb k hf; omega)
  subst e1
  refine (crash_any r1 hll ko kcap keep hkl hk2).mono ?_
  rintro e w' ⟨he, hR, hK⟩
  refine ⟨he, ⟨_, F2, by rfl, e2, hR, r2.kept hK (fun k a b => h3 k b a), fun k a b => ?_⟩, hK.below r1.base_le r1.ge⟩
  exact h3 k (foot_nil k a) b
theorem SInv.sync {n : Nat} {st : St} {j : Nat} (h : SInv n st j) : syncE st = 0 ∧ syncS st = { su := st.no, no := st.no, lo := [], fu := -1, off := false } := by
  unfold syncE syncS
  rw [h.off, h.burn.1, h.burn.2, h.good.settle]
  exact ⟨rfl, by simp [h.fu, h.off]⟩
theorem SInv.synced {n : Nat} {st : St} {j : Nat} (h : SInv n st j) : SInv n { su := st.no, no := st.no, lo := [], fu := -1, off := false } 0 :=
  ⟨⟨h.good.n64, by simp, rfl⟩, h.len, by simp, rfl, rfl⟩
/-- A crash that keeps all is as a sync. -/
theorem SInv.whole {n : Nat} {st : St} {j : Nat} (h : SInv n st j) (hj : j ≤ 100) : (crashS st (List.replicate 100 64)).no = st.no := by
  rw [h.good.crash]
  show tearL _ 0 st.lo st.su = st.no
  rw [h.good.eq]
  refine tearL_all st.lo 0 st.su (fun i h1 h2 => ?_) h.good.su64 h.good.lo64
  have hi : i < 100 := by have := h.lo; omega
  unfold kOf
  rw [if_pos (by simpa using hi)]
  rw [List.getD_eq_getElem?_getD, List.getElem?_replicate, if_pos hi]
  rfl
structure PInv (n : Nat) (SU : Secs) (st : St) (j : Nat) : Prop where
  inv : SInv 9 st j
  out : ∀ x ∈ st.lo, x.1 ≠ n
  su : st.su = SU
theorem PInv.put {n : Nat} {SU : Secs} {st : St} {j : Nat} (h : PInv n SU st j) (x : Int) (s : ByteArray) (hx : x.toNat ≠ n) : PInv n SU (putS st x s) (j + 1) := by
  refine ⟨h.inv.put x s, ?_, ?_⟩ <;> unfold putS <;> rw [h.inv.burn.1, h.inv.burn.2]
  · split <;> (try split) <;> try exact h.out
    simp only [↓reduceIte]
    intro y hy
    rcases List.mem_append.1 hy with hy | hy
    · exact h.out y hy
    · simp at hy; subst hy; exact hx
  · split <;> (try split) <;> simp [h.su]
theorem PInv.crash {n : Nat} {SU : Secs} {st : St} {j : Nat} (h : PInv n SU st j) (keep : List Int) (hn : n < 9) : getV (crashS st keep) n = .tuple #[.string ⟨(SU.getD n []).toArray⟩, .int .i64 0] := by
  rw [h.inv.good.crash]
  have hlen : (tearL keep 0 st.lo st.su).length = 9 := by rw [tearL_len, h.inv.good.len, h.inv.len]
  have h0 : thereE { su := tearL keep 0 st.lo st.su, no := tearL keep 0 st.lo st.su, lo := [], fu := -1, off := false } n = 0 := by
    unfold thereE
    rw [if_neg (by simp), if_neg (by simp [hlen]; omega)]
  unfold getV
  rw [if_pos h0]
  simp only [Int.toNat_natCast, List.getD_eq_getElem?_getD, tearL_out keep st.lo 0 st.su n h.out]
  rw [h.su]
theorem sure_sync {base b1 b2 : Nat} {w : World} {st1 st1' st2 : St} (h : Two base w b1 st1 b2 st2) (hll : st1.lo.length ≤ 1000000000) (he : syncE st1 = 0) (hs : syncS st1 = st1') :
    Calls Try.prog 9 #[.pointer (some ⟨b1, 0, none⟩)] w (TwoV base b1 st1' b2 st2 (.int .i64 0) w) := by
  have := two_sync h hll
  rwa [he, hs] at this
theorem int_row : (Try.prog.info? 3).map (fun i => (i.zero, i.size, i.bytes)) = some (some (.int .i64 0), 1, 8) := by kernel_rfl
theorem own_ints {S : Nat → Prop} {w : World} {base : Nat} {e : TypeId} {v : Value} {l : List Int} (h : w.ownsRow base e 1 v l.length (l.map (Value.int .i64))) (hwf : ∀ x ∈ l, Wf x) : Own (Rd.int .i64) S w base e v l := by
  refine ⟨_, h, RowsOf.of_idx (by simp [Rd.int]) (fun k c hk => ⟨[.int .i64 c], ⟨rfl, hwf c (List.mem_of_getElem? hk)⟩, fun j u hj => ?_⟩)⟩
  match j, hj with
  | 0, hj => simp at hj; subst hj; simp [Rd.int, hk]
theorem made_one (z : Value) (n : Nat) : (madeCells #[z] n).toList = List.replicate n z := by
  apply List.ext_getElem
  · simp [madeCells]
  · intro i h1 h2
    simp [madeCells, Nat.mod_one]
theorem made100 : (madeCells #[Value.int .i64 0] (100 * 1)).toList = (List.replicate 100 (0 : Int)).map (Value.int .i64) := by
  rw [made_one, List.map_replicate]
/-- So many places are filled. -/
def filled (k : Nat) : List Int := List.replicate k 64 ++ List.replicate (100 - k) 0
theorem filled_set {k : Nat} (h : k < 100) : (filled k).set k 64 = filled (k + 1) := by
  apply List.ext_getElem?
  intro i
  unfold filled
  rw [List.getElem?_set]
  simp only [List.getElem?_append, List.getElem?_replicate, List.length_append, List.length_replicate]
  by_cases h1 : k = i
  · subst h1; simp; omega
  · by_cases h2 : i < k
    · simp [h1, h2, show i < k + 1 by omega]
    · simp [h1, h2, show ¬ i < k + 1 by omega]
      by_cases h3 : i < 100
      · rw [if_pos (by omega), if_pos (by omega)]
      · rw [if_neg (by omega), if_neg (by omega)]
theorem filled_len {k : Nat} (h : k ≤ 100) : (filled k).length = 100 := by simp [filled]; omega
theorem image_eq {base b : Nat} {w : World} {st : St} {no : Secs} (h : Pl base w b st) (e : st.no = no) : Calls Try.prog 15 #[.pointer (some ⟨b, 0, none⟩)] w (StrPost (imageB no) w) := by
  subst e; exact pl_image h
theorem get_eq {base b : Nat} {w : World} {st : St} {x : Int} {v : Value} (h : Pl base w b st) (e : getV st x = v) : Calls Try.prog 11 #[.pointer (some ⟨b, 0, none⟩), .int .i64 x] w (fun e w' => e = .returned v ∧ w = w') := by
  subst e; exact pl_get h x
theorem ext_image {no : Secs} {n : Nat} (h : ∀ d ∈ no, d.length = 64) (hn : n < no.length) : (no[n]?.getD [] == ((imageB no).extract (64 * n) (64 * n + 64)).toList) = true := by
  obtain ⟨d, hd⟩ := some_at hn
  have e := flat_at h hd
  rw [hd, byte_list, ByteArray.data_extract]
  show (d == _) = true
  rw [beq_iff_eq, ← e]
  simp [imageB, List.extract_eq_take_drop]
def otherB : ByteArray := ⟨#[111, 116, 104, 101, 114]⟩
set_option maxHeartbeats 8000000 in
set_option maxRecDepth 100000 in
theorem law_sure (ao : Option Addr) (cap : Nat) (l : List Op4) (ko : Option Addr) (kcap : Nat) (keep : List Int) (x : Int) (hx : Wf x) (w : World) (h : SlArg rOp w ao cap l) (hk : SlArg (Rd.int .i64) w ko kcap keep) :
    Calls Try.prog 4 #[.slice ao l.length cap, .slice ko keep.length kcap, .int .i64 x] w (TruePost w) := by
  have hl := h.at'
  have hll := Nat.le_trans h.le h.max
  have hkl := hk.at'
  have hkk := Nat.le_trans hk.le hk.max
  clear h hk
  unfold maxLen at hll hkk
  have HW := Lib.hid (works_true w)
  by_cases hlight : lightP l
  · by_cases hk2 : keep.length ≤ 200
    · have hd2 : decide ((200 : Int) < (keep.length : Int)) = false := by simp; omega
      have HL := Lib.hid (show ∀ W, Below w.heap.size w W → Calls Try.prog 13 #[.slice ao l.length cap] W (BoolPost true W) from fun W hb => by
        have := light_any ao cap l W (hl.old hb).here hll
        rwa [show decide (lightP l) = true by simpa using hlight] at this)
      have HLI := Lib.hid hlight
      have h80 := hlight.1
      clear hlight
      go_enter Try.func4, Try.ntmps4
      go_wp2_with (first
        | ((with_reducible refine (HW.out).mono ?_); rintro e w0 ⟨rfl, hB0⟩)
        | ((with_reducible refine (HL.out w0 hB0).mono ?_); rintro e w0' ⟨rfl, rfl⟩)
        | ((with_reducible refine (pl_new w0 9 9 rfl (by omega) (by omega)).mono ?_); rintro e w1 ⟨b, rfl, hP1, hB1⟩))
      have hbase := hB0.size
      obtain ⟨base, hbs⟩ : ∃ base, w0.heap.size = base := ⟨_, rfl⟩
      rw [hbs] at hP1 hB1 hbase
      have HB1 := Lib.hid (hB0.trans (hB1.mono hbase))
      clear hbs hB1
      go_loopw [9] (fun v9 wr => ∃ (k : Nat) (st : St), k ≤ l.length ∧ v9 = .int .i64 k ∧ Hid (SInv 9 st k) ∧ Hid (Pl base wr b st) ∧ Below w.heap.size w wr) (fun v9 _ => l.length - (intOf v9).toNat)
      case atStart => exact ⟨0, St.new 9, by omega, rfl, Lib.hid (SInv.new 9), Lib.hid hP1, HB1.out⟩
      case round =>
        obtain ⟨k, st, hk, rfl, hI, hP, hB⟩ := hrel
        by_cases hkl2 : k < l.length
        · obtain ⟨c, hc⟩ := some_at hkl2
          obtain ⟨bo, off, qo, qcap, rfl, _, hbo, _, _, _, _, _, _, x0, x1, x2, x3⟩ := op_get (hl.old hB) hc
          have hkl3 : (k : Int) < (l.length : Int) := by omega
          have hs300 := (HLI.out.2 c (List.mem_of_getElem? hc)).1
          clear hc
          by_cases h0 : c.1 = 0
          · have hd0 : (c.1 == 0) = true := by simpa using h0
            clear h0
            obtain ⟨i, hi9, hmod⟩ := mod9 c.2.1
            go_wp2_with fail
            obtain ⟨W2, hW2, y1, y2, HP2, HB2⟩ : ∃ W2, { wr with drawn := wr.drawn + 1 } = W2 ∧ W2.cell? ⟨bo, off + k * 4 + 1, none⟩ = some (.int .i64 c.2.1) ∧ W2.cell? ⟨bo, off + k * 4 + 2, none⟩ = some (.string c.2.2.1) ∧ Pl base W2 b st ∧ Below w.heap.size w W2 :=
              ⟨_, rfl, x1, x2, hP.out.below (Below.refl _ _).drew, hB.trans (Below.refl _ _).drew⟩
            have hw9 : IntKind.u64.wrap 9 = 9 := by decide
            have hwi : IntKind.i64.wrap (i : Int) = (i : Int) := IntWalk.i64_in _ (by omega)
            have hi9i : (i : Int) < 9 := by omega
            have HSP := Lib.hid (hI.out.put i c.2.2.1)
            have hlo : st.lo.length ≤ 1000000000 := by have := hI.out.lo; omega
            refine wp_region_still_tail 14 (by kernel_rfl) (by kernel_rfl) ?_
            rw [hW2]
            clear hW2
            simp only [List.take_succ_cons, List.take_zero, List.drop_succ_cons, List.drop_zero]
            repeat still_step
            refine wpStill_nil ?_
            clear hmod hw9 hwi
            go_wp2_with ((with_reducible refine (pl_put HP2 i c.2.2.1 (by unfold maxTx; omega) hlo).mono ?_); rintro e w3 ⟨rfl, hP3, hB3⟩)
            go_roundw
            case measure => simp [intOf]; omega
            case rel => exact ⟨k + 1, _, by omega, by go_num, HSP, Lib.hid hP3, HB2.trans (hB3.mono hbase)⟩
          · have hd0 : (c.1 == 0) = false := by simpa using h0
            have hlim : k ≤ 80 := by omega
            clear h0
            go_wp2_with fail
            go_roundw
            case measure => simp [intOf]; omega
            case rel => exact ⟨k + 1, st, by omega, by go_num, Lib.hid (hI.out.mono (by omega)), hP, hB⟩
        · obtain rfl : k = l.length := by omega
          have hlo : st.lo.length ≤ 80 := by have := hI.out.lo; omega
          have hlo2 : st.lo.length ≤ 1000000000 := by omega
          have HS := Lib.hid hI.out.sync
          have HW2 := Lib.hid (hI.out.whole (by omega))
          have HIN := Lib.hid hI.out.synced
          have HC1 := Lib.hid (pl_copy hP.out hlo2)
          have hsz : (imageB st.no).size = 576 := by show st.no.flatten.length = 576; rw [flat_len hI.out.good.n64, hI.out.len]
          have HSZ := Lib.hid hsz
          clear hsz hk
          obtain ⟨i0, hi0, hz0, hz1, hz2⟩ := info_parts int_row
          have HI := Lib.hid hi0
          have HZ0 := Lib.hid hz0
          have HZ1 := Lib.hid hz1
          have HZ2 := Lib.hid hz2
          clear hi0 hz0 hz1 hz2
          go_wp2_with (first
            | ((with_reducible refine (HC1.out).mono ?_); rintro e w2 ⟨b2, rfl, hT2, hB2⟩)
            | (go_at_call 9; refine (sure_sync hT2 hlo2 HS.out.1 HS.out.2).mono ?_; rintro e w3 ⟨rfl, hT3, hB3⟩)
            | (go_at_call 15; refine (pl_image hT3.one).mono ?_; rintro e w4 ⟨rfl, hB4⟩)
            | (at_make; refine wpList_make_full _ rfl _ _ 30 rfl w4.heap.size 3 i0 (.int .i64 0) 1 Try.underlying30 HI.out HZ0.out HZ1.out _ _ _ _ 100 rfl rfl rfl rfl (by rw [HZ2.out]; omega) (by unfold maxLen; omega) (Nat.le_refl _) ?_; intro w5 hO5 hg5))
          have hB5 : Below w.heap.size w w4 := ((hB.trans (hB2.mono hB.size)).trans (hB3.mono hbase)).trans (hB4.mono (by have := hB.size; have := hB2.size; have := hB3.size; omega))
          have hT4 := hT3.below hB4
          clear hT2 hT3 hB2 hB3 hB4 hP hB
          have hO6 : Own (Rd.int .i64) (fun _ => False) w5 w4.heap.size 3 (.slice (some ⟨w4.heap.size, 0, none⟩) 100 100) (filled 0) := by
            refine own_ints ?_ (by intro y hy; simp [filled] at hy; subst hy; exact Wf.of (by omega) (by omega))
            rw [show (filled 0) = List.replicate 100 0 by rfl, ← made100]
            exact hO5
          have hb5 : Below w4.heap.size w4 w5 := (Kept.of_grown hg5).below (Nat.le_refl _) (fun k e => by cases e)
          clear hO5 hg5
          go_loopw [14] (fun v14 wr => ∃ k : Nat, k ≤ 100 ∧ v14 = .int .i64 k ∧ Hid (Own (Rd.int .i64) (fun _ => False) wr w4.heap.size 3 (.slice (some ⟨w4.heap.size, 0, none⟩) 100 100) (filled k)) ∧ Below w4.heap.size w4 wr) (fun v14 _ => 100 - (intOf v14).toNat)
          case atStart => exact ⟨0, by omega, rfl, Lib.hid hO6, hb5⟩
          case round =>
            clear hO6 hb5
            obtain ⟨k, hk, rfl, hO, hb⟩ := hrel
            by_cases hk100 : k < 100
            · have hk100i : (k : Int) < 100 := by omega
              obtain ⟨cs, hcs, hat⟩ := hO.out.at (k := k) (c := (filled k).getD k 0) (by rw [List.getD_eq_getElem?_getD, List.getElem?_eq_getElem (by rw [filled_len hk]; exact hk100)]; rfl)
              have hsome : (∃ v, wr.cell? ⟨w4.heap.size, k, none⟩ = some v) := by
                obtain ⟨rfl, _⟩ := hcs
                exact ⟨_, by simpa [Rd.int] using hat 0 _ rfl⟩
              obtain ⟨v, hv⟩ := hsome
              have hfz := hO.out.free k
              have hst := hO.out.store (k := k) (by rw [filled_len hk]; exact hk100) (cs := [.int .i64 64]) (c := 64) ⟨rfl, by decide⟩
              have HST := Lib.hid hst
              clear hst hcs hat
              go_wp2_with fail
              go_roundw
              case measure => simp [intOf]; omega
              case rel =>
                refine ⟨k + 1, by omega, by go_num, Lib.hid ?_, hb.setCell (p := ⟨_, _, none⟩) (Nat.le_refl _) _⟩
                have e := HST.out.1
                rw [filled_set hk100] at e
                simpa [Rd.int, World.setCells] using e
            · obtain rfl : k = 100 := by omega
              have hF : filled 100 = List.replicate 100 64 := by simp [filled]
              have hO2 := hO.out
              rw [hF] at hO2
              have hsl : SlAt (Rd.int .i64) (fun k => w4.heap.size ≤ k) wr (some ⟨w4.heap.size, 0, none⟩) (List.replicate 100 64) := hO2.sl.2.mono (fun b h _ => h.elim False.elim id)
              have HSL := Lib.hid hsl
              have HT4 := Lib.hid hT4.symm
              have HP0 := Lib.hid (fun n => (show PInv n st.no { su := st.no, no := st.no, lo := [], fu := -1, off := false } 0 from ⟨HIN.out, by simp, rfl⟩))
              obtain ⟨n, hn9, hmod⟩ := mod9 x
              have hn9i : (n : Int) < 9 := by omega
              have HIM := Lib.hid hI.out
              clear hO2 hsl hF hT4
              go_wp2_with (first
                | (go_at_call 10; refine (two_crash2 HT4.out hb hlo2 (some ⟨w4.heap.size, 0, none⟩) 100 (List.replicate 100 64) 100 (by rw [List.length_replicate]) (by rw [List.length_replicate]; omega) HSL.out).mono ?_; rintro e w6 ⟨rfl, hT6, hB6⟩)
                | (go_at_call 15; refine (image_eq hT6.one HW2.out).mono ?_; rintro e w7 ⟨rfl, hB7⟩))
              have hP7 := Lib.hid (hT6.below hB7).symm.one
              have hB8 : Below w.heap.size w w7 := ((hB5.trans (hb.mono hB5.size)).trans (hB6.mono hbase)).trans (hB7.mono (by have := hB5.size; have := hb.size; have := hB6.size; omega))
              clear hT6 hB6 hB7 hb hmod
              go_loopw [16] (fun v16 wr => ∃ (i : Nat) (stp : St), i ≤ 5 ∧ v16 = .int .i64 i ∧ Hid (PInv n st.no stp i) ∧ Hid (Pl base wr b stp) ∧ Below w.heap.size w wr) (fun v16 _ => 5 - (intOf v16).toNat)
              case atStart => exact ⟨0, _, by omega, rfl, Lib.hid (HP0.out n), hP7, hB8⟩
              case round =>
                clear hP7 hB8
                obtain ⟨i, stp, hi, rfl, hPI, hPP, hB9⟩ := hrel
                have hlo3 : stp.lo.length ≤ 1000000000 := by have := hPI.out.inv.lo; omega
                by_cases hi5 : i < 5
                · have hi5i : (i : Int) < 5 := by omega
                  have HPUT := Lib.hid (fun y (hy : Int.toNat y ≠ n) => hPI.out.put y otherB hy)
                  go_wp2_with (go_at_call 8; refine (pl_put hPP.out _ otherB (by decide) hlo3).mono ?_; rintro e w9 ⟨rfl, hP9, hB10⟩)
                  go_roundw
                  case measure => simp [intOf]; omega
                  case rel => exact ⟨i + 1, _, by omega, by go_num, Lib.hid (HPUT.out _ (by omega)), Lib.hid hP9, hB9.trans (hB10.mono hbase)⟩
                · obtain rfl : i = 5 := by omega
                  have HG := Lib.hid (hPI.out.crash keep hn9)
                  have hszi : ((imageB st.no).size : Int) = 576 := by have := HSZ.out; omega
                  have hap : ∀ F, Raw base wr F stp → F.b = b → SlAt (Rd.int .i64) (fun k => ¬ foot F k) wr ko keep := fun F hF _ => (hkl.old hB9).mono (fun k hk _ hf => by have := hF.ge k hf; omega)
                  go_wp2_with (first
                    | (go_at_call 10; refine (pl_crash hPP.out hlo3 ko kcap keep hkk hap).mono ?_; rintro e w9 ⟨rfl, hP9, hB10⟩)
                    | (go_at_call 11; refine (get_eq hP9 HG.out).mono ?_; rintro e w10 ⟨rfl, rfl⟩))
                  go_ret
                  exact ⟨ret_bool (ext_image HIM.out.good.n64 (by rw [HIM.out.len]; exact hn9)), hB9.trans (hB10.mono hbase)⟩
    · have hd2 : decide ((200 : Int) < (keep.length : Int)) = true := by simp; omega
      have HL := Lib.hid (show ∀ W, Below w.heap.size w W → Calls Try.prog 13 #[.slice ao l.length cap] W (BoolPost true W) from fun W hb => by
        have := light_any ao cap l W (hl.old hb).here hll
        rwa [show decide (lightP l) = true by simpa using hlight] at this)
      clear hlight
      go_enter Try.func4, Try.ntmps4
      go_wp2_with (first
        | ((with_reducible refine (HW.out).mono ?_); rintro e w0 ⟨rfl, hB0⟩)
        | ((with_reducible refine (HL.out w0 hB0).mono ?_); rintro e w0' ⟨rfl, rfl⟩))
      go_ret
      exact ⟨rfl, hB0⟩
  · have HL := Lib.hid (show ∀ W, Below w.heap.size w W → Calls Try.prog 13 #[.slice ao l.length cap] W (BoolPost false W) from fun W hb => by
      have := light_any ao cap l W (hl.old hb).here hll
      rwa [show decide (lightP l) = false by simpa using hlight] at this)
    clear hlight
    go_enter Try.func4, Try.ntmps4
    go_wp2_with (first
      | ((with_reducible refine (HW.out).mono ?_); rintro e w0 ⟨rfl, hB0⟩)
      | ((with_reducible refine (HL.out w0 hB0).mono ?_); rintro e w0' ⟨rfl, rfl⟩))
    go_ret
    exact ⟨rfl, hB0⟩
end Go.Proofs.Ytbgdkpgegbkfkaa
