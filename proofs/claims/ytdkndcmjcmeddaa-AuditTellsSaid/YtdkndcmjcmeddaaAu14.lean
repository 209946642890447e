/- The document's SameMates and Converged. -/
import Derived.Test.YtdkndcmjcmeddaaAu13
import Derived.ChangeKeysEq
namespace Go.Proofs.Ytdkndcmjcmeddaa
open Go.RowKit Lift
set_option linter.unusedSimpArgs false
set_option linter.unusedVariables false
theorem mt_equal (a b c d : Int) (w : World) : (Op.equalIn 10000 42 (.agg #[.int .i64 a, .int .i64 b]) (.agg #[.int .i64 c, .int .i64 d])).run Try.prog w = .ok (decide (a = c ∧ b = d)) w := by
  obtain ⟨i0, hi, _⟩ := info_parts int_info
  have hc : Try.prog.cellsOf 3 = 1 := by kernel_rfl
  have hz : Try.prog.underlying 3 = some (.int .i64) := by kernel_rfl
  rw [show (10000:Nat) = 9999+1 from rfl, run_equalIn_array w 9999 _ _ (n := 2) (e := 3) (by kernel_rfl) hi, hc]
  have h0 : ∀ (d : Nat) (x y : Int) w, (Op.equalIn (d + 1) 3 (.int .i64 x) (.int .i64 y)).run Try.prog w = .ok (x == y) w := fun d x y w => by
    simp [Op.equalIn, run_underlying hz]
  have h1 : ∀ (x y : Int) w, (Op.equalIn 9999 3 (.int .i64 x) (.int .i64 y)).run Try.prog w = .ok (x == y) w := fun x y w => h0 9998 x y w
  have h2 : ∀ (x y : Int) w, (part 3 #[.int .i64 x, .int .i64 y] 0).run Try.prog w = .ok (.int .i64 x) w := fun x y w => by
    kernel_rfl
  have h3 : ∀ (x y : Int) w, (part 3 #[.int .i64 x, .int .i64 y] 1).run Try.prog w = .ok (.int .i64 y) w := fun x y w => by
    kernel_rfl
  simp [show List.range 2 = [0, 1] from rfl, Op.eqItems, h2, h3, h1]
  by_cases h3 : a = c <;> by_cases h4 : b = d <;> simp [h3, h4]
set_option maxHeartbeats 1000000 in
set_option maxRecDepth 100000 in
theorem same_mt (ao bo : Option Addr) (cap cap2 : Nat) (l m : List Mt) (w : World) (hl : SlAt rMt (· < w.heap.size) w ao l) (hm : SlAt rMt (· < w.heap.size) w bo m) (hlen : l.length ≤ 1000000) :
    Calls Try.prog 9 #[.slice ao l.length cap, .slice bo m.length cap2] w (BelowPost (.bool (decide (l = m))) w) := by
  have hA := Below.refl w.heap.size w
  by_cases hlm : l.length = m.length
  · have hne : ((l.length : Int) != (m.length : Int)) = false := by simp [hlm]
    have hle1 : l.length ≤ m.length := by omega
    have hle2 : m.length ≤ l.length := by omega
    have HLM := Lib.hid hlm
    clear hlm
    go_enter Try.func9, Try.ntmps9
    go_wp2_with fail
    go_loopw [5] (fun v5 wr => ∃ k : Nat, k ≤ l.length ∧ v5 = .int .i64 k ∧ Hid (l.take k = m.take k) ∧ Below w.heap.size w wr) (fun v5 _ => l.length - (intOf v5).toNat)
    case atStart => exact ⟨0, by omega, rfl, Lib.hid rfl, Below.refl _ _⟩
    case round =>
      obtain ⟨k, hk, rfl, heq, hB⟩ := hrel
      by_cases hkl : k < l.length
      · obtain ⟨c, hcl⟩ := some_at hkl
        obtain ⟨d, hdm⟩ := some_at (show k < m.length by omega)
        obtain ⟨b1, o1, rfl, hs1, hb1, hok1, x0, x1⟩ := mt_get (hl.old hB) hcl
        obtain ⟨b2, o2, rfl, hs2, hb2, hok2, y0, y1⟩ := mt_get (hm.old hB) hdm
        have hkl1 : (k:Int) < (l.length : Int) := by omega
        have hkm : (k:Int) < (m.length : Int) := by omega
        have hlim : k ≤ 1000000 := by omega
        have hq := mt_equal c.1 c.2 d.1 d.2
        by_cases hcd : c = d
        · have HT := Lib.hid (take_same heq.out hcl hdm hcd)
          subst hcd
          simp only [and_self, decide_true] at hq
          go_wp2_with fail
          (refine wp_region_still_lit (by kernel_rfl) (by kernel_rfl) ?_; refine StillH.out ?_; (repeat (refine still_h (fun K hK => ?_); go_simp; refine hK _ ?_; clear hK K)); refine still_end ?_)
          go_wp2_with fail
          go_roundw
          case measure => simp [intOf]; omega
          case rel => exact ⟨k + 1, by omega, by go_num, HT, hB.drew⟩
        · have HT := Lib.hid (ne_at hcl hdm hcd)
          have hne2 := mt_ne hcd
          clear hcd
          rcases hne2 with e0 | ⟨e0, e1⟩
          · have hd : decide (c.1 = d.1 ∧ c.2 = d.2) = false := by simp; intro h; first | exact absurd h e0 | exact e1
            rw [hd] at hq
            try clear e1
            clear hd e0
            try clear e1
            go_wp2_with fail
            (refine wp_region_still_lit (by kernel_rfl) (by kernel_rfl) ?_; refine StillH.out ?_; (repeat (refine still_h (fun K hK => ?_); go_simp; refine hK _ ?_; clear hK K)); refine still_end ?_)
            go_wp2_with fail
            go_ret
            exact ⟨ret_bool (by simpa using HT.out), hB.drew⟩
          · have hd : decide (c.1 = d.1 ∧ c.2 = d.2) = false := by simp; intro h; first | exact absurd h e0 | exact e1
            rw [hd] at hq
            try clear e1
            clear hd e0
            try clear e1
            go_wp2_with fail
            (refine wp_region_still_lit (by kernel_rfl) (by kernel_rfl) ?_; refine StillH.out ?_; (repeat (refine still_h (fun K hK => ?_); go_simp; refine hK _ ?_; clear hK K)); refine still_end ?_)
            go_wp2_with fail
            go_ret
            exact ⟨ret_bool (by simpa using HT.out), hB.drew⟩
      · obtain rfl : k = l.length := by omega
        have HT := Lib.hid (show l = m by have := heq.out; rwa [List.take_length, List.take_of_length_le hle2] at this)
        go_wp2_with fail
        go_ret
        exact ⟨ret_bool (by simpa using HT.out), hB⟩
  · have hne : ((l.length : Int) != (m.length : Int)) = true := by simp; omega
    have HLM := Lib.hid hlm
    clear hlm
    go_enter Try.func9, Try.ntmps9
    go_wp2_with fail
    go_ret
    exact ⟨ret_bool (by have := HLM.out; simp; rintro rfl; exact this rfl), hA⟩
def badAt (m : Mt) (c : Ent) (r : Rec) : Bool := decide (r.1 = m.2) && !(r.2.2.2.1.toList == c.2.2.2.toList)
def loopR : List Mt → List Ent → List Rec → Bool
  | m :: ms, c :: cs, rs => !rs.any (badAt m c) && loopR ms cs rs
  | _, _, _ => true
def convR (s : Sd) (last anchor : Int) : Bool := okR s && (!pendR s && (!decide (last < 1) && (decide (last = anchor) && loopR (matesR s) s.e s.r)))
theorem matesR_len (s : Sd) (h : okR s = true) : (matesR s).length = s.e.length := by
  unfold matesR
  rw [if_pos h]
  unfold okR at h
  simp only [Bool.and_eq_true, decide_eq_true_eq] at h
  exact h.2.1
set_option maxHeartbeats 16000000 in
set_option maxRecDepth 100000 in
theorem conv_ref (s : Sd) (last anchor : Int) (w : World) (hs : SdOk w.heap.size w s) : Calls Try.prog 11 #[sdV s, .int .i64 last, .int .i64 anchor] w (BelowPost (.bool (convR s last anchor)) w) := by
  obtain ⟨W0, hW0⟩ : ∃ W0, w.alloc (.cells #[.slice s.ea s.e.length s.ec, .slice s.ga s.g.length s.gc, .slice s.pa s.p.length s.pc, .slice s.ra s.r.length s.rc] 26) = W0 := ⟨_, rfl⟩
  have hb0 : Below w.heap.size w W0 := by rw [← hW0]; exact (Below.refl _ _).alloc (Nat.le_refl _) _
  have hsz : W0.heap.size = w.heap.size + 1 := by rw [← hW0]; simp
  have hbx : SdBox W0 w.heap.size s := by rw [← hW0]; exact ⟨by simp [go_sem], by simp [go_sem], by simp [go_sem], by simp [go_sem]⟩
  have hs0 : SdOk W0.heap.size W0 s := (hs.old hb0).up (by omega)
  have HR0 := Lib.hid (show RBox w.heap.size s W0 from ⟨by omega, hs0, hbx⟩)
  have HQ1 := Lib.hid (mates_ref s W0 hs0)
  have H2 := Lib.hid (show ∀ w', Below W0.heap.size W0 w' → Calls Try.prog 33 #[sdV s] w' (BelowPost (.bool (pendR s)) w') from fun w' h => pending_ref s w' ((hs0.old h).up h.size))
  have hel := hs.el
  have hrl := hs.rl
  have HT0 := Lib.hid hb0
  obtain ⟨E, hE⟩ : ∃ E, convR s last anchor = E := ⟨_, rfl⟩
  rw [hE]
  unfold convR at hE
  have HML := Lib.hid (matesR_len s)
  obtain ⟨b1, hb1⟩ : ∃ b, okR s = b := ⟨_, rfl⟩
  obtain ⟨b2, hb2⟩ : ∃ b, pendR s = b := ⟨_, rfl⟩
  rw [hb1, hb2] at hE
  rw [hb1] at HQ1 HML
  rw [hb2] at H2
  have HE := Lib.hid hE
  clear hs hsz hb0 hs0 hbx hE hb1 hb2
  unfold sdV at *
  have hst := Below.refl W0.heap.size W0
  obtain ⟨x0, x1, x2, x3⟩ := HR0.out.bx
  have hlt := HR0.out.lt
  have HX := Lib.hid (show ∀ w', Below W0.heap.size W0 w' → SdBox w' w.heap.size s from fun w' h => (HR0.out.next h).bx)
  go_enter Try.func11, Try.ntmps11
  go_wp2_with fail
  with_reducible refine HQ1.out.mono ?_
  rintro e w3 ⟨v, rfl, hO, hb3⟩
  obtain ⟨la, lc, e⟩ := hO.form
  subst e
  have HLL := Lib.hid (show SlAt rMt (· < w3.heap.size) w3 la (matesR s) from hO.here)
  have hst := hst.trans (hb3.mono hst.size)
  have HR1 := Lib.hid (HR0.out.next hst)
  obtain ⟨x0, x1, x2, x3⟩ := HR1.out.bx
  have hlt := HR1.out.lt
  have HS1 := Lib.hid hst
  have hst := Below.refl w3.heap.size w3
  have H2 := Lib.hid (show ∀ w', Below w3.heap.size w3 w' → Calls Try.prog 33 #[.agg #[.slice s.ea s.e.length s.ec, .slice s.ga s.g.length s.gc, .slice s.pa s.p.length s.pc, .slice s.ra s.r.length s.rc]] w' (BelowPost (.bool b2) w') from fun w' h => H2.out w' (chain HS1.out h))
  clear hO hb3 HQ1
  have HT1 := Lib.hid (chain HT0.out HS1.out)
  cases b1 with
  | false =>
    go_wp2_with (first | ((with_reducible refine (H2.out _ hst).mono ?_); rintro e w4 ⟨rfl, hb4⟩; have hst := hst.trans (hb4.mono hst.size)))
    go_ret
    exact ⟨ret_bool (by rw [← HE.out]; rfl), chain HT1.out hst⟩
  | true =>
    cases b2 with
    | true =>
      go_wp2_with (first | ((with_reducible refine (H2.out _ hst).mono ?_); rintro e w4 ⟨rfl, hb4⟩; have hst := hst.trans (hb4.mono hst.size)))
      go_ret
      exact ⟨ret_bool (by rw [← HE.out]; rfl), chain HT1.out hst⟩
    | false =>
      by_cases h1 : last < 1
      · go_wp2_with (first | ((with_reducible refine (H2.out _ hst).mono ?_); rintro e w4 ⟨rfl, hb4⟩; have hst := hst.trans (hb4.mono hst.size)))
        go_ret
        exact ⟨ret_bool (by rw [← HE.out]; simp [h1]), chain HT1.out hst⟩
      · by_cases h2 : last = anchor
        · subst h2
          have hE := HE.out
          simp only [h1, decide_false, Bool.not_false, Bool.true_and, decide_true] at hE
          clear HE
          have HE := Lib.hid hE
          clear hE
          have hml := HML.out rfl
          obtain ⟨L, hL⟩ : ∃ L, matesR s = L := ⟨_, rfl⟩
          rw [hL] at hml HE HLL
          rw [hL, hml]
          have HLEN := Lib.hid hml
          clear hL hml
          go_wp2_with (first | ((with_reducible refine (H2.out _ hst).mono ?_); rintro e w4 ⟨rfl, hb4⟩; have hst := hst.trans (hb4.mono hst.size)))
          go_loopw [9] (fun vi wr => ∃ k : Nat, k ≤ s.e.length ∧ vi = .int .i64 k ∧ Hid (loopR L s.e s.r = loopR (L.drop k) (s.e.drop k) s.r) ∧ Below w3.heap.size w3 wr) (fun vi _ => s.e.length - (intOf vi).toNat)
          case atStart => exact ⟨0, by omega, rfl, Lib.hid rfl, hst⟩
          case round =>
            clear hst x0 x1 x2 x3 hlt
            obtain ⟨k, hk, rfl, HK, hbr⟩ := hrel
            have HRr := Lib.hid (HR1.out.next hbr)
            obtain ⟨x0, x1, x2, x3⟩ := HRr.out.bx
            have hlt := HRr.out.lt
            by_cases hkl : k < s.e.length
            · obtain ⟨c, hcl⟩ := some_at hkl
              obtain ⟨m, hml⟩ := some_at (l := L) (k := k) (by rw [HLEN.out]; exact hkl)
              have hkl2 : (k : Int) < (s.e.length : Int) := by omega
              have hlim : k ≤ 1000 := by omega
              have HCL := Lib.hid hcl
              have HMK := Lib.hid hml
              have HK2 := Lib.hid (HK.out.trans (show loopR (L.drop k) (s.e.drop k) s.r = (!s.r.any (badAt m c) && loopR (L.drop (k + 1)) (s.e.drop (k + 1)) s.r) by rw [drop_at hcl, drop_at hml]; rfl))
              clear hcl hml HK
              go_wp2_with fail
              go_loopw [10] (fun vi wr => ∃ j : Nat, j ≤ s.r.length ∧ vi = .int .i64 j ∧ Hid (s.r.any (badAt m c) = (s.r.drop j).any (badAt m c)) ∧ Below w3.heap.size w3 wr) (fun vi _ => s.r.length - (intOf vi).toNat)
              case atStart => exact ⟨0, by omega, rfl, Lib.hid rfl, hbr⟩
              case round =>
                clear hbr HRr x0 x1 x2 x3 hlt
                obtain ⟨j, hj, rfl, HJ, hbr⟩ := hrel
                have HRr := Lib.hid (HR1.out.next hbr)
                obtain ⟨x0, x1, x2, x3⟩ := HRr.out.bx
                have hlt := HRr.out.lt
                by_cases hjk : j < s.r.length
                · obtain ⟨d, hdl⟩ := some_at hjk
                  obtain ⟨be, oe, hae, _, hbe, hoke, z0, z1, z2, z3⟩ := ent_get HRr.out.ok.e HCL.out
                  obtain ⟨bb, oo, hao, hs1, hb1, hok, y0, y1, y2, y3, y4, y5, y6, y7, y8⟩ := rec_get HRr.out.ok.r hdl
                  obtain ⟨bm, om, rfl, _, hbm, hokm, m0, m1⟩ := mt_get (HLL.out.old hbr) HMK.out
                  rw [hao] at x3
                  rw [hae] at x0
                  have hjk2 : (j : Int) < (s.r.length : Int) := by omega
                  have HJ2 := Lib.hid (HJ.out.trans (show (s.r.drop j).any (badAt m c) = (badAt m c d || (s.r.drop (j + 1)).any (badAt m c)) by rw [drop_at hdl, List.any_cons]))
                  obtain ⟨g, hg⟩ : ∃ g, d.1 = g := ⟨_, rfl⟩
                  obtain ⟨n, hn⟩ : ∃ n, m.2 = n := ⟨_, rfl⟩
                  obtain ⟨t1, ht1⟩ : ∃ t, d.2.2.2.1 = t := ⟨_, rfl⟩
                  obtain ⟨t2, ht2⟩ : ∃ t, c.2.2.2 = t := ⟨_, rfl⟩
                  obtain ⟨f, hf⟩ : ∃ f, (t1.toList == t2.toList) = f := ⟨_, rfl⟩
                  rw [hg] at y0
                  rw [hn] at m1
                  rw [ht1] at y3
                  rw [ht2] at z3
                  have HH := Lib.hid (show badAt m c d = (decide (g = n) && !f) by unfold badAt; rw [hg, hn, ht1, ht2, hf])
                  clear hg hn ht1 ht2 hok hdl hao hoke hae hokm HJ y1 y2 y4 y5 y6 y7 y8 z0 z1 z2 m0
                  by_cases hgn : g = n
                  · have hd0 : decide (g = n) = true := by simpa using hgn
                    have hd1 : (g == n) = true := by simpa using hgn
                    clear hgn
                    cases f with
                    | true =>
                      have HJ3 := Lib.hid (HJ2.out.trans (by rw [HH.out, hd0]))
                      go_wp2_with fail
                      (refine wp_region_still_lit (by kernel_rfl) (by kernel_rfl) ?_; refine StillH.out ?_; (repeat (refine still_h (fun K hK => ?_); go_simp; refine hK _ ?_; clear hK K)); refine still_end ?_)
                      go_wp2_with fail
                      go_roundw
                      case measure => simp [intOf]; omega
                      case rel => exact ⟨j + 1, by omega, by go_num, HJ3, hbr.drew⟩
                    | false =>
                      have HJ3 := Lib.hid (HJ2.out.trans (by rw [HH.out, hd0, Bool.not_false, Bool.true_and, Bool.true_or]))
                      go_wp2_with fail
                      (refine wp_region_still_lit (by kernel_rfl) (by kernel_rfl) ?_; refine StillH.out ?_; (repeat (refine still_h (fun K hK => ?_); go_simp; refine hK _ ?_; clear hK K)); refine still_end ?_)
                      go_wp2_with fail
                      go_ret
                      exact ⟨ret_bool (by rw [← HE.out, HK2.out, HJ3.out]; rfl), chain HT1.out hbr.drew⟩
                  · have hd0 : decide (g = n) = false := by simpa using hgn
                    have hd1 : (g == n) = false := by simpa using hgn
                    have HJ3 := Lib.hid (HJ2.out.trans (by rw [HH.out, hd0]))
                    clear hgn
                    go_wp2_with fail
                    (refine wp_region_still_lit (by kernel_rfl) (by kernel_rfl) ?_; refine StillH.out ?_; (repeat (refine still_h (fun K hK => ?_); go_simp; refine hK _ ?_; clear hK K)); refine still_end ?_)
                    go_wp2_with fail
                    go_roundw
                    case measure => simp [intOf]; omega
                    case rel => exact ⟨j + 1, by omega, by go_num, HJ3, hbr.drew⟩
                · obtain rfl : j = s.r.length := by omega
                  have HK3 := Lib.hid (HK2.out.trans (by rw [HJ.out, List.drop_eq_nil_of_le (by simp)]))
                  go_wp2_with fail
                  go_roundw
                  case measure => simp [intOf]; omega
                  case rel => exact ⟨k + 1, by omega, by go_num, HK3, hbr⟩
            · obtain rfl : k = s.e.length := by omega
              go_wp2_with fail
              go_ret
              exact ⟨ret_bool (by rw [← HE.out, HK.out, List.drop_eq_nil_of_le (Nat.le_of_eq HLEN.out)]; rfl), chain HT1.out hbr⟩
        · have hd0 : decide (last = anchor) = false := by simpa using h2
          have hd1 : (last == anchor) = false := by simpa using h2
          have hd2 : (last != anchor) = true := by simpa using h2
          go_wp2_with (first | ((with_reducible refine (H2.out _ hst).mono ?_); rintro e w4 ⟨rfl, hb4⟩; have hst := hst.trans (hb4.mono hst.size)))
          go_ret
          exact ⟨ret_bool (by rw [← HE.out]; simp [h2]), chain HT1.out hst⟩
end Go.Proofs.Ytdkndcmjcmeddaa
