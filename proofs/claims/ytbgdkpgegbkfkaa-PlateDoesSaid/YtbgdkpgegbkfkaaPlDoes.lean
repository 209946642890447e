/- PlateDoes, walked. -/
import Derived.Test.YtbgdkpgegbkfkaaPlDo
namespace Go.Proofs.Ytbgdkpgegbkfkaa
open Go.RowKit Lift
set_option linter.unusedSimpArgs false
set_option linter.unusedVariables false

theorem op_get2 {S : Nat → Prop} {w : World} {ao : Option Addr} {l : List Op4} (h : SlAt rOp S w ao l) {k : Nat} {c : Op4} (hk : l[k]? = some c) :
    ∃ b off ko kcap, ao = some ⟨b, off, none⟩ ∧ S b ∧ b < w.heap.size ∧ Wf c.1 ∧ Wf c.2.1 ∧ c.2.2.1.size ≤ maxTx ∧ (ko = none → kcap = 0) ∧ SlAt (Rd.int .i64) S w ko c.2.2.2 ∧
      w.cell? ⟨b, off + k * 4, none⟩ = some (.int .i64 c.1) ∧ w.cell? ⟨b, off + k * 4 + 1, none⟩ = some (.int .i64 c.2.1) ∧ w.cell? ⟨b, off + k * 4 + 2, none⟩ = some (.string c.2.2.1) ∧ w.cell? ⟨b, off + k * 4 + 3, none⟩ = some (.slice ko c.2.2.2.length kcap) := by
  obtain ⟨b, off, cs, rfl, hs, hlt, ⟨c1, d1, rfl, ⟨rfl, h1⟩, c2, d2, rfl, ⟨rfl, h2⟩, c3, d3, rfl, ⟨rfl, h3⟩, ⟨ko, kcap, rfl, h4, h5, h6, h7⟩⟩, hc⟩ := h.get hk
  exact ⟨b, off, ko, kcap, rfl, hs, hlt, h1, h2, h3, h6, h7, hc 0 _ rfl, hc 1 _ rfl, hc 2 _ rfl, hc 3 _ rfl⟩
theorem RRaw.rebase {base base' : Nat} {w : World} {R : RF} {rs : RSt} (h : RRaw base w R rs) (hb : base' ≤ base) : RRaw base' w R rs :=
  { h with own2 := h.own2.rebase hb, bb := Nat.le_trans hb h.bb, gb := Nat.le_trans hb h.gb }
/-- The plate that was left behind, if there is one. -/
def OldAt (base : Nat) (O : Nat → Prop) (p : Option Addr) (s : ByteArray) (w : World) : Prop :=
  (p = none ∧ ∀ k, ¬ O k) ∨ ∃ F0 st0, p = some ⟨F0.b, 0, none⟩ ∧ Raw base w F0 st0 ∧ (∀ k, foot F0 k → O k) ∧ s = imageB st0.no
theorem OldAt.kept {base : Nat} {O : Nat → Prop} {p : Option Addr} {s : ByteArray} {w w' : World} (h : OldAt base O p s w) (hk : Kept (Free base O) w w') : OldAt base O p s w' := by
  rcases h with ⟨rfl, h⟩ | ⟨F0, st0, rfl, h1, h2, rfl⟩
  · exact .inl ⟨rfl, h⟩
  · exact .inr ⟨F0, st0, rfl, h1.kept hk (fun k hf hx => hx.2 (h2 k hf)), h2, rfl⟩
theorem mem_copy {base : Nat} {w : World} {O : Nat → Prop} {ab rb : Nat} {st : St} {rs : RSt} (h : Mem base w O ab st rb rs) (hll : st.lo.length ≤ 1000000000) :
    Calls Try.prog 14 #[.pointer (some ⟨ab, 0, none⟩)] w (fun e w' => ∃ b2 O', e = .returned (.pointer (some ⟨b2, 0, none⟩)) ∧ Mem base w' O' b2 st rb rs ∧ OldAt base O' (some ⟨ab, 0, none⟩) (imageB st.no) w' ∧ Below w.heap.size w w') := by
  obtain ⟨F, R, rfl, e2, h1, h2, h3, h4⟩ := h
  refine (copy_any h1 hll).mono ?_
  rintro e w' ⟨F2, he, hR, hb⟩
  refine ⟨F2.b, foot F, he, ⟨F2, R, rfl, e2, hR.rebase h1.base_le, h2.below hb, fun k a b => ?_, fun k hf => ⟨fun a => ?_, fun b => h3 k hf b, Nat.lt_of_lt_of_le (h1.inb k hf) hb.size⟩⟩, .inr ⟨F, st, rfl, h1.below hb, fun k h => h, rfl⟩, hb⟩
  · have := hR.ge k a; have := h2.inb k b; omega
  · have := hR.ge k a; have := h1.inb k hf; omega
theorem mem_new {w w1 w2 : World} {b n : Nat} {R : RF} (h : Pl w.heap.size w1 b (St.new n)) (h2 : RRaw w1.heap.size w2 R (RSt.new n)) (hb : Below w1.heap.size w1 w2) : Mem w.heap.size w2 (fun _ => False) b (St.new n) R.b (RSt.new n) := by
  obtain ⟨F, rfl, h⟩ := h
  refine ⟨F, R, rfl, rfl, h.below hb, h2.rebase h.base_le, fun k a c => ?_, fun k hk => hk.elim⟩
  have := h.inb k a; have := h2.ge k c; omega
theorem does_kept {base : Nat} {O : Nat → Prop} {w a b : World} (h : Below w.heap.size w a) (hbase : w.heap.size ≤ base) (k : Kept (Free base O) a b) : Below w.heap.size w b :=
  h.trans (k.below h.size (fun j hj => Nat.le_trans hbase hj.1))

set_option maxHeartbeats 8000000 in
set_option maxRecDepth 100000 in
theorem law_does (x : Int) (hx : Wf x) (ao : Option Addr) (cap : Nat) (l : List Op4) (w : World) (h : SlArg rOp w ao cap l) :
    Calls Try.prog 5 #[.int .i64 x, .slice ao l.length cap] w (TruePost w) := by
  have hl := h.at'
  have hll := Nat.le_trans h.le h.max
  clear h
  unfold maxLen at hll
  have HLT := Lib.hid (light_any ao cap l w hl hll)
  by_cases hlight : lightP l
  · have e1 : decide (lightP l) = true := by simpa using hlight
    rw [e1] at HLT
    by_cases h40 : 40 < x ∧ x ≤ 8192
    · have hd1 : decide ((40 : Int) < x) = true := by simpa using h40.1
      have hd2 : decide (x ≤ (8192 : Int)) = true := by simpa using h40.2
      clear hlight e1 h40
      go_enter Try.func5, Try.ntmps5
      go_wp2_with ((with_reducible refine (HLT.out).mono ?_); rintro e w0 ⟨rfl, rfl⟩)
      go_ret
      exact ⟨rfl, Below.refl _ _⟩
    · have hd : (decide ((40 : Int) < x) = false) ∨ (decide ((40 : Int) < x) = true ∧ decide (x ≤ (8192 : Int)) = false) := by
        by_cases h : 40 < x
        · right; simp; omega
        · left; simpa using h
      by_cases hbad : x < 1 ∨ 8192 < x
      · have HN := Lib.hid (new_no w x hbad)
        have HRN := Lib.hid (rnew_no w x hbad)
        clear hlight e1 h40 hbad
        rcases hd with hd | ⟨hd, hd2⟩
        all_goals
          go_enter Try.func5, Try.ntmps5
          go_wp2_with (first
            | ((with_reducible refine (HLT.out).mono ?_); rintro e w0 ⟨rfl, rfl⟩)
            | ((with_reducible refine (HN.out).mono ?_); rintro e w0 ⟨rfl, rfl⟩)
            | ((with_reducible refine (HRN.out).mono ?_); rintro e w0 ⟨rfl, rfl⟩))
          go_ret
          exact ⟨rfl, Below.refl _ _⟩
      · obtain ⟨n, rfl⟩ : ∃ n : Nat, x = (n : Int) := ⟨x.toNat, by omega⟩
        have hn1 : 1 ≤ n := by omega
        have hn2 : n ≤ 40 := by omega
        have hd1 : decide (40 < n) = false := by simp; omega
        have hd1i : decide ((40 : Int) < (n : Int)) = false := by simp; omega
        have hnn : (n : Int) ≤ 40 := by omega
        have h80 := hlight.1
        have HLI := Lib.hid hlight
        clear hlight e1 h40 hbad hd
        go_enter Try.func5, Try.ntmps5
        go_wp2_with (first
          | ((with_reducible refine (HLT.out).mono ?_); rintro e w0 ⟨rfl, rfl⟩)
          | ((with_reducible refine (pl_new w n n rfl hn1 (by omega)).mono ?_); rintro e w1 ⟨b, rfl, hP1, hB1⟩)
          | (go_at_call 16; refine (new_ref w1 n hn1 (by omega)).mono ?_; rintro e w2 ⟨R, rfl, hR2, hB2⟩))
        have HM2 := Lib.hid (mem_new hP1 hR2 hB2)
        have hB0 := chain hB1 hB2
        clear hP1 hR2 hB1 hB2
        go_loopw [5, 9, 10, 11] (fun v5 v9 v10 v11 wr => ∃ (k ab : Nat) (p : Option Addr) (s : ByteArray) (O : Nat → Prop) (st : St) (rs : RSt), k ≤ l.length ∧ v11 = .int .i64 k ∧ v5 = .pointer (some ⟨ab, 0, none⟩) ∧ v9 = .pointer p ∧ v10 = .string s ∧ Hid (Rel st rs) ∧ Hid (st.lo.length ≤ k) ∧ Hid (Mem w.heap.size wr O ab st R.b rs) ∧ Hid (OldAt w.heap.size O p s wr) ∧ Below w.heap.size w wr) (fun _ _ _ v11 _ => l.length - (intOf v11).toNat)
        case atStart => exact ⟨0, b, none, _, fun _ => False, St.new n, RSt.new n, by omega, rfl, rfl, rfl, rfl, Lib.hid (Rel.new n), Lib.hid (by simp [St.new]), HM2, Lib.hid (.inl ⟨rfl, fun _ h => h⟩), hB0⟩
        case round =>
          clear hB0 HM2
          obtain ⟨k, ab, p, s, O, st, rs, hk, rfl, rfl, rfl, rfl, hR, hlo, hM, hO, hB⟩ := hrel
          have hlo2 : st.lo.length ≤ 80 := by have := hlo.out; omega
          have hlm : st.lo.length ≤ 1000000 := by omega
          have hll2 : st.lo.length ≤ 1000000000 := by omega
          have hlr : rs.L.length ≤ 1000000000 := by
            have : st.lo.length = rs.L.length := by rw [hR.out.lo, List.length_map]
            omega
          by_cases hkl2 : k < l.length
          · obtain ⟨c, hc⟩ := some_at hkl2
            obtain ⟨bo, off, ko, kcap, rfl, _, hbo, hw1, hw2, hs1, hnone, hks, x0, x1, x2, x3⟩ := op_get2 (hl.old hB) hc
            have hkl3 : (k : Int) < (l.length : Int) := by omega
            have hk200 := (HLI.out.2 c (List.mem_of_getElem? hc)).2
            have HKS := Lib.hid (show ∀ w', Below w.heap.size w w' → Below wr.heap.size wr w' → SlAt (Rd.int .i64) (· < w.heap.size) w' ko c.2.2.2 from fun w' h1 h2 => hks.below h2)
            have hlim : k ≤ 80 := by omega
            clear hc hks
            by_cases h5 : c.1 = 5
            · have hd5 : (c.1 == 5) = true := by simpa using h5
              clear h5
              go_wp2_with (first
                | (go_at_call 17; refine (rem_image hM8 hR8 hlr8).mono ?_; rintro e w10 ⟨rfl, hb10⟩)
                | (go_at_call 17; refine (rem_image hM.out hR.out hlr).mono ?_; rintro e w3 ⟨rfl, hb3⟩; have hM3 := Lib.hid (hM.out.below hb3))
                | (go_at_call 14; refine (mem_copy hM3.out hll2).mono ?_; rintro e w4 ⟨b2, O4, rfl, hM4, hO4, hb4⟩;
                   have hb34 := chain hb3 hb4; have z0 := (hb34.cell (p := ⟨bo, off + k * 4, none⟩) hbo).trans x0; have z1 := (hb34.cell (p := ⟨bo, off + k * 4 + 1, none⟩) hbo).trans x1; have z2 := (hb34.cell (p := ⟨bo, off + k * 4 + 2, none⟩) hbo).trans x2; have z3 := (hb34.cell (p := ⟨bo, off + k * 4 + 3, none⟩) hbo).trans x3;
                   have HB4 := Lib.hid (chain hB hb34); have HKS4 := Lib.hid (HKS.out w4 HB4.out hb34))
                | (go_at_call 18; refine (do_any hM4 hR.out hlm c ko kcap hw2 hs1 hk200 hnone HKS4.out).mono ?_; rintro e w8 ⟨st8, rs8, rfl, hR8, hlo8, hM8, hK8⟩; have hlr8 := hR8.lrle hlo8 hlm)
                | (go_at_call 15; refine (mem_image hM8).mono ?_; rintro e w9 ⟨rfl, hb9⟩; have hM8' := hM8; clear hM8; have hM8 := hM8'.below hb9))
              go_roundw
              case measure => simp [intOf]; omega
              case rel => exact ⟨k + 1, b2, _, _, O4, st8, rs8, by omega, by go_num, rfl, rfl, rfl, Lib.hid hR8, Lib.hid (by have := hlo.out; omega), Lib.hid (hM8.below hb10), Lib.hid ((hO4.kept hK8).kept (Kept.of_below (chain hb9 hb10) _)), chain (chain (does_kept HB4.out (Nat.le_refl _) hK8) hb9) hb10⟩
            · have hd5 : (c.1 == 5) = false := by simpa using h5
              have hKS := HKS.out wr hB (Below.refl _ _)
              have HKS4 := Lib.hid hKS
              clear h5 hKS
              go_wp2_with (first
                | (go_at_call 17; refine (rem_image hM8 hR8 hlr8).mono ?_; rintro e w10 ⟨rfl, hb10⟩)
                | (go_at_call 18; refine (do_any hM.out hR.out hlm c ko kcap hw2 hs1 hk200 hnone HKS4.out).mono ?_; rintro e w8 ⟨st8, rs8, rfl, hR8, hlo8, hM8, hK8⟩; have hlr8 := hR8.lrle hlo8 hlm)
                | (go_at_call 15; refine (mem_image hM8).mono ?_; rintro e w9 ⟨rfl, hb9⟩; have hM8' := hM8; clear hM8; have hM8 := hM8'.below hb9))
              go_roundw
              case measure => simp [intOf]; omega
              case rel => exact ⟨k + 1, ab, p, s, O, st8, rs8, by omega, by go_num, rfl, rfl, rfl, Lib.hid hR8, Lib.hid (by have := hlo.out; omega), Lib.hid (hM8.below hb10), Lib.hid ((hO.out.kept hK8).kept (Kept.of_below (chain hb9 hb10) _)), chain (chain (does_kept hB (Nat.le_refl _) hK8) hb9) hb10⟩
          · obtain rfl : k = l.length := by omega
            rcases hO.out with ⟨rfl, _⟩ | ⟨F0, st0, rfl, hF0, _, rfl⟩
            · go_wp2_with fail
              go_ret
              exact ⟨rfl, hB⟩
            · go_wp2_with (go_at_call 15; refine (image_any hF0).mono ?_; rintro e w9 ⟨rfl, hb9⟩)
              go_ret
              exact ⟨rfl, chain hB hb9⟩
  · have e1 : decide (lightP l) = false := by simpa using hlight
    rw [e1] at HLT
    clear hlight e1
    go_enter Try.func5, Try.ntmps5
    go_wp2_with ((with_reducible refine (HLT.out).mono ?_); rintro e w0 ⟨rfl, rfl⟩)
    go_ret
    exact ⟨rfl, Below.refl _ _⟩
end Go.Proofs.Ytbgdkpgegbkfkaa
