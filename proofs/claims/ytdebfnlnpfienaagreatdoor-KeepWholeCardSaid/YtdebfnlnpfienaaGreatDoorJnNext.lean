/- The record at a journal's end: the program's next. -/
import Derived.Test.YtdebfnlnpfienaaGreatDoorJnHead
import Derived.Test.YtdebfnlnpfienaaGreatDoorBKg
namespace Go.Proofs.YtdebfnlnpfienaaGreatDoor
open Go.RowKit Lift Crc
set_option linter.unusedSimpArgs false
set_option linter.unusedVariables false

theorem or_i64 (a b : Nat) (ha : a < 4611686018427387904) (hb : b < 4611686018427387904) : bits .or .i64 (a : Int) (b : Int) = ((a ||| b : Nat) : Int) := by
  have hab : a ||| b < 2 ^ 62 := Nat.or_lt_two_pow (by omega) (by omega)
  have e : ∀ a : Nat, BitVec.ofInt 64 (a : Int) = BitVec.ofNat 64 a := fun a => BitVec.ofInt_natCast 64 a
  simp only [bits]
  rw [show IntKind.i64.bits = 64 from rfl, e, e, ← BitVec.ofNat_or, BitVec.toNat_ofNat, Nat.mod_eq_of_lt (by omega), IntKind.wrap_i64]
  omega
theorem or_add (a b k : Nat) (ha : a < 2 ^ k) : a ||| (b * 2 ^ k) = a + b * 2 ^ k := by
  rw [Nat.or_comm, Nat.mul_comm, ← Nat.two_pow_add_eq_or_of_lt ha, Nat.add_comm]
theorem w64_small (n : Nat) (h : n < 9223372036854775808) : wrap64 (n : Int) = n := by unfold wrap64; omega
theorem or4 (x y z u : UInt8) : bits .or .i64 (bits .or .i64 (bits .or .i64 (wrap64 x.toNat) (wrap64 (wrap64 y.toNat * 256))) (wrap64 (wrap64 z.toNat * 65536))) (wrap64 (wrap64 u.toNat * 16777216)) = ((x.toNat + y.toNat * 256 + z.toNat * 65536 + u.toNat * 16777216 : Nat) : Int) := by
  have h1 := x.toNat_lt; have h2 := y.toNat_lt; have h3 := z.toNat_lt; have h4 := u.toNat_lt
  rw [w64_small x.toNat (by omega), w64_small y.toNat (by omega), w64_small z.toNat (by omega), w64_small u.toNat (by omega)]
  rw [show ((y.toNat : Int) * 256) = ((y.toNat * 256 : Nat) : Int) by omega, show ((z.toNat : Int) * 65536) = ((z.toNat * 65536 : Nat) : Int) by omega, show ((u.toNat : Int) * 16777216) = ((u.toNat * 16777216 : Nat) : Int) by omega]
  rw [w64_small (y.toNat * 256) (by omega), w64_small (z.toNat * 65536) (by omega), w64_small (u.toNat * 16777216) (by omega)]
  have e1 := or_add x.toNat y.toNat 8 (by omega)
  have e2 := or_add (x.toNat + y.toNat * 256) z.toNat 16 (by omega)
  have e3 := or_add (x.toNat + y.toNat * 256 + z.toNat * 65536) u.toNat 24 (by omega)
  simp only [Nat.reducePow] at e1 e2 e3
  rw [or_i64 _ _ (by omega) (by omega), e1, or_i64 _ _ (by omega) (by omega), e2, or_i64 _ _ (by omega) (by omega), e3]
theorem own_each {α : Type} {r : Rd α} {S : Nat → Prop} {w : World} {base : Nat} {e : TypeId} {v : Value} {l : List α} (h : Own r S w base e v l) : ∀ c ∈ l, ∃ cs S', r.rel S' w cs c := by
  obtain ⟨xs, _, css, _, _, h3⟩ := h
  intro c hc
  obtain ⟨k, hk⟩ := List.mem_iff_getElem?.1 hc
  obtain ⟨cs, _, h⟩ := h3 k c hk
  exact ⟨cs, _, h⟩
theorem Raw.n64 {base : Nat} {w : World} {F : Fp} {st : St} (h : Raw base w F st) : ∀ d ∈ st.no, d.length = 64 := fun d hd => by
  obtain ⟨cs, S', h1⟩ := own_each h.own2 d hd
  exact h1.2
theorem getV_at {st : St} (k : Nat) (ho : st.off = false) (hk : k < st.no.length) : getV st k = .tuple #[.string ⟨(st.no.getD k []).toArray⟩, .int .i64 0] := by
  have h0 : thereE st k = 0 := by unfold thereE; rw [ho]; simp; omega
  simp [getV, h0]
theorem getV_off {st : St} (x : Int) (ho : st.off = true) : getV st x = .tuple #[.string ⟨#[]⟩, .int .i64 12] := by
  have h0 : thereE st x = 12 := by unfold thereE; rw [ho]; simp
  simp [getV, h0]
theorem get_q {base : Nat} {w : World} {F : Fp} {st : St} (h : Raw base w F st) (x : Int) (v : Value) (hv : getV st x = v) (w1 : World) (hw : ∃ q, w1 = w.drewN q) : Calls Tryz.prog 63 #[.pointer (some ⟨F.b, 0, none⟩), .int .i64 x] w1 (fun e w' => e = .returned v ∧ w' = w1) := by
  obtain ⟨q, rfl⟩ := hw
  rw [← hv]
  exact (get_any (h.below (below_drewN (Below.refl _ _) q)) x).mono fun _ _ ⟨a, b⟩ => ⟨a, b.symm⟩
/-- What next tells. -/
def NextPost (st : St) (js : JSt) (w : World) (e : Ending) (w' : World) : Prop :=
  ∃ t ok er, e = .returned (.tuple #[.string t, .bool ok, .int .i64 er]) ∧ er = (if st.off then 12 else 0) ∧ ok = (if st.off then false else (nextRec st.no js.lim js.gen js.recs.length js.en).isSome) ∧ (ok = true → nextRec st.no js.lim js.gen js.recs.length js.en = some t) ∧ Below w.heap.size w w'
set_option maxHeartbeats 1000000 in
set_option maxRecDepth 100000 in
theorem next_any {base : Nat} {w : World} {F : Fp} {st : St} {J : JF} {js : JSt} (h : JRaw base w F st J js) :
    Calls Tryz.prog 95 #[.pointer (some ⟨J.b, 0, none⟩)] w (NextPost st js w) := by
  obtain ⟨c0, c1, c2, c3, c4, c5⟩ := h.cells
  obtain ⟨b1, b2, b3⟩ := h.bd
  have H := Lib.hid h
  cases ho : st.off with
  | true =>
    have HG := Lib.hid (getV_off (st := st) js.en ho)
    clear h
    go_enter Tryz.func95, Tryz.ntmps95
    go_wp2_with fail
    (refine wp_region_quiet_lit (by kernel_rfl) (by kernel_rfl) ?_; (repeat (any_goals (first | go_big_quiet_step ((go_at_call 63; exact Calls.quiet_of_same (get_q H.out.raw _ _ HG.out _ ⟨_, rfl⟩))) | quiet_step ((go_at_call 63; exact Calls.quiet_of_same (get_q H.out.raw _ _ HG.out _ ⟨_, rfl⟩))) | (refine wpQuiet_step (fun K hK => ?_); go_simp; split <;> (refine hK _ ?_; clear hK K))))); all_goals (refine wpQuiet_nil ?_; intro _ hw'; obtain ⟨nq, hw''⟩ := hw'; subst hw''))
    go_wp2_with fail
    go_ret3
    exact ⟨_, _, _, rfl, by rw [ho]; rfl, by rw [ho]; rfl, by simp, below_drewN (Below.refl _ _) _⟩
  | false =>
    have hen := h.en
    have hlim := h.lim
    have hd64 := h.raw.n64
    obtain ⟨d, hd⟩ := some_at (l := st.no) (k := js.en) (by omega)
    have hdl := hd64 d (List.mem_of_getElem? hd)
    have HG := Lib.hid (getV_at (st := st) js.en ho (by omega))
    have hgd : st.no.getD js.en [] = d := by rw [List.getD_eq_getElem?_getD, hd]; rfl
    rw [hgd] at HG
    have hsz : (⟨d.toArray⟩ : ByteArray).size = 64 := hdl
    obtain ⟨T, hT⟩ : ∃ T, (⟨d.toArray⟩ : ByteArray) = T := ⟨_, rfl⟩
    rw [hT] at HG hsz
    clear h
    clear c0 c1 c2 c3 c4 c5
    obtain ⟨c0, c1, c2, c3, c4, c5⟩ := H.out.cells
    go_enter Tryz.func95, Tryz.ntmps95
    go_wp2_with fail
    (refine wp_region_quiet_lit (by kernel_rfl) (by kernel_rfl) ?_; (repeat (any_goals (first | go_big_quiet_step ((go_at_call 63; exact Calls.quiet_of_same (get_q H.out.raw _ _ HG.out _ ⟨_, rfl⟩))) | quiet_step ((go_at_call 63; exact Calls.quiet_of_same (get_q H.out.raw _ _ HG.out _ ⟨_, rfl⟩))) | (refine wpQuiet_step (fun K hK => ?_); go_simp; split <;> (refine hK _ ?_; clear hK K))))); all_goals (refine wpQuiet_nil ?_; intro _ hw'; obtain ⟨nq, hw''⟩ := hw'; subst hw''))
    revert nq; intro q1
    go_wp2_with fail
    (refine wp_region_quiet_lit (by kernel_rfl) (by kernel_rfl) ?_; (repeat (any_goals (first | go_big_quiet_step (fail) | quiet_step (fail) | (refine wpQuiet_step (fun K hK => ?_); go_simp; split <;> (refine hK _ ?_; clear hK K))))); all_goals (refine wpQuiet_nil ?_; intro _ hw'; obtain ⟨nq, hw''⟩ := hw'; subst hw''))
    revert nq; intro q2
    obtain ⟨w1, hw1⟩ : ∃ w1, (w.drewN q1).drewN q2 = w1 := ⟨_, rfl⟩
    have hb1 : Below w.heap.size w w1 := by rw [← hw1]; exact below_drewN (below_drewN (Below.refl _ _) _) _
    have H1 := Lib.hid (H.out.below hb1)
    rw [hw1]
    clear hw1 c0 c1 c2 c3 c4 c5
    obtain ⟨c0, c1, c2, c3, c4, c5⟩ := H1.out.cells
    go_wp2_with fail
    rw [or4]
    have h9 : ∀ i, (h : i < T.size) → T[i] = d.getD i 0 := fun i h => by subst hT; exact get_bytes d i h
    simp only [h9]
    obtain ⟨n, hn⟩ : ∃ n, ((d.getD 9 0).toNat + (d.getD 10 0).toNat * 256 + (d.getD 11 0).toNat * 65536 + (d.getD 12 0).toNat * 16777216) = n := ⟨_, rfl⟩
    have hle : le4 d = n := hn
    have hnl := le4_lt d
    rw [hle] at hnl
    rw [hn]
    generalize (d.getD 9 0) = x9
    generalize (d.getD 10 0) = x10
    generalize (d.getD 11 0) = x11
    generalize (d.getD 12 0) = x12
    clear h9 hn
    by_cases hbig : 1048576 < n
    · have hd1 : decide (1048576 < (n : Int)) = true := by simpa using (by omega : (1048576 : Int) < (n : Int))
      have hd1' : (1048576 : Int) < (n : Int) := by omega
      have hnr : nextRec st.no js.lim js.gen js.recs.length js.en = none := by unfold nextRec; rw [if_neg (by rw [hgd, hle]; omega)]
      (refine wp_region_quiet_lit (by kernel_rfl) (by kernel_rfl) ?_; (repeat (any_goals (first | go_big_quiet_step (fail) | quiet_step (fail) | (refine wpQuiet_step (fun K hK => ?_); go_simp; split <;> (refine hK _ ?_; clear hK K))))); all_goals (refine wpQuiet_nil ?_; intro _ hw'; obtain ⟨nq, hw''⟩ := hw'; subst hw''))
      go_wp2_with fail
      go_ret3
      exact ⟨_, _, _, rfl, by simp [ho], by simp [ho, hnr], by simp, below_drewN hb1 _⟩
    · have hd1 : decide (1048576 < (n : Int)) = false := by simpa using (by omega : ¬ (1048576 : Int) < (n : Int))
      have hd1' : ¬ (1048576 : Int) < (n : Int) := by omega
      have HN := Lib.hid (show ∀ w1, Calls Tryz.prog 33 #[.int .i64 n] w1 (fun e w' => e = .returned (.int .i64 (needN n)) ∧ w' = w1) from fun w1 => by
        rw [← needI_nat (by omega : n ≤ 1048576)]
        exact (need_any n (Wf.of (by omega) (by omega)) w1).mono fun _ _ ⟨a, b⟩ => ⟨a, b.symm⟩)
      have hnd : needN n ≤ 20000 := by unfold needN; omega
      by_cases hfit : js.lim < js.en + needN n + 1
      · have hd2 : decide ((js.lim : Int) - js.en - 1 < (needN n : Int)) = true := by simpa using (by omega : (js.lim : Int) - js.en - 1 < (needN n : Int))
        have hd2' : (js.lim : Int) - js.en - 1 < (needN n : Int) := by omega
        have hnr : nextRec st.no js.lim js.gen js.recs.length js.en = none := by unfold nextRec; rw [if_neg (by rw [hgd, hle]; omega)]
        (refine wp_region_quiet_lit (by kernel_rfl) (by kernel_rfl) ?_; (repeat (any_goals (first | go_big_quiet_step ((go_at_call 33; exact Calls.quiet_of_same (HN.out _))) | quiet_step ((go_at_call 33; exact Calls.quiet_of_same (HN.out _))) | (refine wpQuiet_step (fun K hK => ?_); go_simp; split <;> (refine hK _ ?_; clear hK K))))); all_goals (refine wpQuiet_nil ?_; intro _ hw'; obtain ⟨nq, hw''⟩ := hw'; subst hw''))
        go_wp2_with fail
        go_ret3
        exact ⟨_, _, _, rfl, by simp [ho], by simp [ho, hnr], by simp, below_drewN hb1 _⟩
      · have hd2 : decide ((js.lim : Int) - js.en - 1 < (needN n : Int)) = false := by simpa using (by omega : ¬ (js.lim : Int) - js.en - 1 < (needN n : Int))
        have hd2' : ¬ (js.lim : Int) - js.en - 1 < (needN n : Int) := by omega
        (refine wp_region_quiet_lit (by kernel_rfl) (by kernel_rfl) ?_; (repeat (any_goals (first | go_big_quiet_step ((go_at_call 33; exact Calls.quiet_of_same (HN.out _))) | quiet_step ((go_at_call 33; exact Calls.quiet_of_same (HN.out _))) | (refine wpQuiet_step (fun K hK => ?_); go_simp; split <;> (refine hK _ ?_; clear hK K))))); all_goals (refine wpQuiet_nil ?_; intro _ hw'; obtain ⟨nq, hw''⟩ := hw'; subst hw''))
        revert nq; intro q3
        obtain ⟨w2, hw2⟩ : ∃ w2, w1.drewN q3 = w2 := ⟨_, rfl⟩
        have hb2 : Below w.heap.size w w2 := by rw [← hw2]; exact below_drewN hb1 _
        have H2 := Lib.hid (H.out.below hb2)
        rw [hw2]
        clear hw2 c0 c1 c2 c3 c4 c5 H1
        obtain ⟨c0, c1, c2, c3, c4, c5⟩ := H2.out.cells
        have hB0 := BK.fresh w2
        have hnl64 : bytesAt st.no (js.en + 1) 0 = [] := bytesAt_zero _ _
        clear hd1 hd1' hd2 hd2' HG hd c0 c1 c2 c3 c4 c5
        go_wp2_with fail
        go_loopw [9] (fun v9 wr => ∃ i : Nat, v9 = .int .i64 i ∧ 1 ≤ i ∧ i ≤ needN n ∧ BK w2.heap.size w2.heap.size [] w2 (bytesAt st.no (js.en + 1) (i - 1)) wr) (fun v _ => needN n - (intOf v).toNat)
        case atStart => exact ⟨1, rfl, Nat.le_refl _, by unfold needN; omega, by rw [Nat.sub_self, hnl64]; exact hB0⟩
        case round =>
          obtain ⟨i, rfl, hi1, hi2, hB⟩ := hrel
          have hbw := hB.2.2.1
          have H3 := Lib.hid (H2.out.below hbw)
          obtain ⟨c0, c1, c2, c3, c4, c5⟩ := H3.out.cells
          by_cases hlt : i < needN n
          · have hlt2 : (i : Int) < (needN n : Int) := by omega
            obtain ⟨x, hx⟩ := some_at (l := st.no) (k := js.en + i) (by omega)
            have hxl := hd64 x (List.mem_of_getElem? hx)
            have HG := Lib.hid (getV_at (st := st) (js.en + i) ho (by omega))
            rw [show st.no.getD (js.en + i) [] = x by rw [List.getD_eq_getElem?_getD, hx]; rfl, show ((js.en + i : Nat) : Int) = (js.en : Int) + i by omega] at HG
            have hbs := bytesAt_succ (no := st.no) (a := js.en + 1) (n := i - 1) (d := x) (by rw [show js.en + 1 + (i - 1) = js.en + i by omega]; exact hx)
            rw [show i - 1 + 1 = i by omega] at hbs
            have HBS := Lib.hid hbs
            have hlb : (bytesAt st.no (js.en + 1) (i - 1)).length = 64 * (i - 1) := bytesAt_len hd64 (by omega)
            clear hbs hx
            go_wp2_with ((with_reducible refine (HN.out _).mono ?_); rintro e w3 ⟨rfl, rfl⟩)
            (refine wp_region_quiet_lit (by kernel_rfl) (by kernel_rfl) ?_; (repeat (any_goals (first | go_big_quiet_step ((go_at_call 63; exact Calls.quiet_of_same (get_q H3.out.raw _ _ HG.out _ ⟨_, rfl⟩))) | quiet_step ((go_at_call 63; exact Calls.quiet_of_same (get_q H3.out.raw _ _ HG.out _ ⟨_, rfl⟩))) | (refine wpQuiet_step (fun K hK => ?_); go_simp; split <;> (refine hK _ ?_; clear hK K))))); all_goals (refine wpQuiet_nil ?_; intro _ hw'; obtain ⟨nq, hw''⟩ := hw'; subst hw''))
            revert nq; intro q4
            have hB4 := hB.next (below_drewN (Below.refl _ _) q4)
            go_wp2_with fail
            refine (hB4.write ⟨x.toArray⟩ (by rw [hlb]; have : (⟨x.toArray⟩ : ByteArray).size = 64 := hxl; omega)).mono ?_
            rintro e w5 ⟨rfl, hB5⟩
            go_wp2_with fail
            go_roundw
            case measure => simp [intOf]; omega
            case rel => exact ⟨i + 1, by go_num, by omega, by omega, by rw [Nat.add_sub_cancel, HBS.out]; exact hB5⟩
          · obtain rfl : i = needN n := by omega
            have hlb : (bytesAt st.no (js.en + 1) (needN n - 1)).length = 64 * (needN n - 1) := bytesAt_len hd64 (by omega)
            go_wp2_with ((with_reducible refine (HN.out _).mono ?_); rintro e w3 ⟨rfl, rfl⟩)
            refine hB.string.mono ?_
            rintro e w4 ⟨rfl, hb4⟩
            have hsl : (⟨(bytesAt st.no (js.en + 1) (needN n - 1)).toArray⟩ : ByteArray).size = 64 * (needN n - 1) := hlb
            have hn64 : n ≤ 64 * (needN n - 1) := by unfold needN; omega
            have hRT : (⟨(bytesAt st.no (js.en + 1) (needN n - 1)).toArray⟩ : ByteArray).extract 0 n = recText st.no js.en n := by
              apply ByteArray.ext
              simp [recText]
            have hrs : (recText st.no js.en n).size = n := recText_size hd64 (by omega)
            obtain ⟨Y, hY⟩ : ∃ Y, (⟨(bytesAt st.no (js.en + 1) (needN n - 1)).toArray⟩ : ByteArray) = Y := ⟨_, rfl⟩
            rw [hY] at hsl hRT ⊢
            have hnY : (n : Int) ≤ (Y.size : Int) := by omega
            have hYb : Y.size ≤ 9223372036854775807 := by omega
            have HH := Lib.hid (head_any (H2.out.below hb4) (recText st.no js.en n) (by omega))
            have HRT := Lib.hid hRT
            clear H3 c0 c1 c2 c3 c4 c5 hlb hB hsl hY hRT
            go_wp2_with fail
            rw [HRT.out]
            refine HH.out.mono ?_
            rintro e w5 ⟨rfl, hb5⟩
            go_wp2_with fail
            go_ret3
            have hB5 := hb2.trans ((hb4.trans (hb5.mono hb4.size)).mono hb2.size)
            have hok : ((headB js.recs.length js.gen (recText st.no js.en n)).toList == T.toList) = decide (headL js.recs.length js.gen (recText st.no js.en n) = d) := by
              rw [str_eq, ← hT]
              refine decide_eq_decide.2 ⟨fun e => ?_, fun e => by rw [← e]; rfl⟩
              have := congrArg (fun b : ByteArray => b.data.toList) e
              simpa [headB] using this
            have hnr : nextRec st.no js.lim js.gen js.recs.length js.en = if headL js.recs.length js.gen (recText st.no js.en n) = d then some (recText st.no js.en n) else none := by
              unfold nextRec
              rw [hgd, hle]
              by_cases e : headL js.recs.length js.gen (recText st.no js.en n) = d
              · rw [if_pos ⟨by omega, by omega, e⟩, if_pos e]
              · rw [if_neg (fun h => e h.2.2), if_neg e]
            refine ⟨_, _, _, rfl, by simp [ho], ?_, ?_, hB5⟩
            · simp only [ho, Bool.false_eq_true, ↓reduceIte]
              refine hok.trans ?_
              rw [hnr]
              split <;> simp_all
            · intro h
              have h' := hok.symm.trans h
              rw [hnr, if_pos (by simpa using h')]
end Go.Proofs.YtdebfnlnpfienaaGreatDoor
