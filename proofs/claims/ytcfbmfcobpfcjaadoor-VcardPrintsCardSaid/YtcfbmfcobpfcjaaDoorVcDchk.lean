/- What is wrong with a card: the document's check. -/
import Derived.Test.YtcfbmfcobpfcjaaDoorVcApp
import Derived.Deep.CutBlock
import Derived.Deep.CutRange
namespace Go.Proofs.YtcfbmfcobpfcjaaDoor
open Go.RowKit Lift Go.Shelf
set_option linter.unusedSimpArgs false
set_option linter.unusedVariables false

def set5 (W : World) (b : Nat) (g n : ByteArray) (pa : Option Addr) (len pc : Nat) (v : ByteArray) (aa : Option Addr) (na ac : Nat) : World :=
  (((((W.setCell ⟨b, 0, none⟩ (.string g)).setCell ⟨b, 1, none⟩ (.string n)).setCell ⟨b, 2, none⟩ (.slice pa len pc)).setCell ⟨b, 3, none⟩ (.string v)).setCell ⟨b, 4, none⟩ (.slice aa na ac))
theorem set5_kept (W : World) (b : Nat) (g n : ByteArray) (pa : Option Addr) (len pc : Nat) (v : ByteArray) (aa : Option Addr) (na ac : Nat) : Kept (· = b) W (set5 W b g n pa len pc v aa na ac) := by
  have h : ∀ (W : World) (i : Nat) (v : Value), Kept (· = b) W (W.setCell ⟨b, i, none⟩ v) := fun W i v => Kept.setCell (X := (· = b)) W (p := ⟨b, i, none⟩) rfl v
  have t : ∀ {A B C : World}, Kept (· = b) A B → Kept (· = b) B C → Kept (· = b) A C := fun h k => h.trans k (fun _ _ h => h) (fun _ _ h => h)
  exact t (t (t (t (h _ _ _) (h _ _ _)) (h _ _ _)) (h _ _ _)) (h _ _ _)
theorem set5_block {W : World} {b : Nat} {x0 x1 x2 x3 x4 : Value} {t : TypeId} (h : W.heap[b]? = some (.cells #[x0, x1, x2, x3, x4] t (0, 0))) (g n : ByteArray) (pa : Option Addr) (len pc : Nat) (v : ByteArray) (aa : Option Addr) (na ac : Nat) :
    (set5 W b g n pa len pc v aa na ac).heap[b]? = some (.cells #[.string g, .string n, .slice pa len pc, .string v, .slice aa na ac] t (0, 0)) := by
  unfold set5
  simp [World.setCell, Array.getElem?_modify, h]
theorem any_none {α : Type} {p : α → Bool} {l : List α} {k : Nat} {c : α} (h : (l.take k).any p = false) (hk : l[k]? = some c) (hc : p c = false) : (l.take (k + 1)).any p = false := by
  rw [take_at2 hk, List.any_append, h]; simp [hc]
theorem any_some {α : Type} {p : α → Bool} {l : List α} {k : Nat} {c : α} (hk : l[k]? = some c) (hc : p c = true) : l.any p = true := List.any_eq_true.2 ⟨c, List.mem_of_getElem? hk, hc⟩
set_option maxHeartbeats 8000000 in
set_option maxRecDepth 100000 in
theorem dchk_any : ∀ (d m : Nat) (c : Crd) (cs : Array Value) (w : World), FineC m c → (rCrd d).rel (· < w.heap.size) w cs.toList c →
    Calls Tryd.prog 24 #[.agg cs] w (BelowPost (.int .i64 (chkN d c)) w)
  | 0, m, c, cs, w, hf, h => h.elim
  | d + 1, m, c, cs, w, hf, h => by
    have ih := dchk_any d
    have HIH := Lib.hid ih
    clear ih
    obtain ⟨d', ao, cap, hd', h1, h2, h3, h4, h5⟩ := card_inv h
    obtain rfl : d = d' := by omega
    obtain rfl : cs = #[.slice ao c.props.length cap] := Array.toList_inj.1 (by rw [h1])
    clear h hd' h1
    have hb0 : Below w.heap.size w (w.alloc (.cells #[.slice ao c.props.length cap] 24)) := (Below.refl _ w).alloc (Nat.le_refl _) _
    by_cases h24 : 24 < c.props.length
    · have h24z : (24 : Int) < (c.props.length : Int) := by omega
      have HE := Lib.hid (show chkN (d + 1) c = 4 by rw [chkN_succ, if_pos h24])
      go_enter Tryd.func24, Tryd.ntmps24
      go_wp2_with fail
      go_ret
      exact ⟨by rw [HE.out]; rfl, hb0⟩
    have h24z : ¬ (24 : Int) < (c.props.length : Int) := by omega
    obtain ⟨ps, hps⟩ : ∃ ps, c.props = ps := ⟨_, rfl⟩
    obtain ⟨m', rfl⟩ : ∃ m', m = m' + 1 := by
      cases m with
      | zero => exact hf.elim
      | succ m' => exact ⟨m', rfl⟩
    have HFine := Lib.hid (show ∀ p ∈ ps, FineP m' p from fun p hp => hf.2 p (by rw [hps]; exact hp))
    have HC := Lib.hid (show chkN (d + 1) c = firstE (ps.map (errP d)) by rw [chkN_succ, if_neg h24, hps])
    rw [hps] at h5 h24 h24z hb0 ⊢
    have HH5 := Lib.hid h5
    have H24 := Lib.hid h24
    have HB0 := Lib.hid hb0
    clear hps hf h2 h3 h4 h5 h24 hb0
    go_enter Tryd.func24, Tryd.ntmps24
    go_wp2_with fail
    go_loopw [3] (fun v3 wr => ∃ i : Nat, i ≤ ps.length ∧ v3 = .int .i64 i ∧ Hid (firstE ((ps.take i).map (errP d)) = 0) ∧ Hid (Below w.heap.size w wr) ∧ w.heap.size < wr.heap.size ∧ wr.cell? ⟨w.heap.size, 0, none⟩ = some (.slice ao ps.length cap)) (fun v3 _ => ps.length - (intOf v3).toNat)
    case atStart => exact ⟨0, Nat.zero_le _, rfl, Lib.hid (by simp [firstE]), HB0, by simp, by simp [go_sem]⟩
    case round =>
      clear HB0
      obtain ⟨i, hi, rfl, HE, HB, hz, c0⟩ := hrel
      by_cases hil : i < ps.length
      · have hil2 : (i : Int) < (ps.length : Int) := by omega
        have h23 : i ≤ 24 := by have := H24.out; omega
        obtain ⟨⟨g, n, pl, v, gs⟩, hp⟩ := some_at hil
        have hpm : (g, n, pl, v, gs) ∈ ps := List.mem_of_getElem? hp
        obtain ⟨b, off, pa, pc, aa, ac, rfl, hS, hlt, s1, s2, s3, ⟨j1, j2, j3, j4⟩, ⟨i1, i2, i3, i4⟩, k0, k1, k2, k3, k4⟩ := prop_get (HH5.out.old HB.out) hp
        have hfp := HFine.out _ hpm
        dsimp only at j1 j3 j4 i1 i3 i4 k0 k1 k2 k3 k4 s1 s2 s3
        have hpl20 : pl.length ≤ 20 := hfp.1
        have HFA := Lib.hid hfp.2.2.2
        have HI4 := Lib.hid i4
        have HJ4 := Lib.hid j4
        have HP := Lib.hid hp
        have hBw : w.heap.size ≤ wr.heap.size := by omega
        obtain ⟨wo, rfl⟩ : ∃ x : World, x = wr := ⟨_, rfl⟩
        obtain ⟨W2, hW2⟩ : ∃ x, wo.alloc (.cells #[.string g, .string n, .slice pa pl.length pc, .string ⟨#[]⟩, .slice none 0 0] 42) = x := ⟨_, rfl⟩
        have hbx : Below wo.heap.size wo W2 := by rw [← hW2]; exact (Below.refl _ _).alloc (Nat.le_refl _) _
        have hblk : W2.heap[wo.heap.size]? = some (.cells #[.string g, .string n, .slice pa pl.length pc, .string ⟨#[]⟩, .slice none 0 0] 42 (0, 0)) := by rw [← hW2]; exact heap_alloc_new _ _
        have HCk := Lib.hid (check_ref g n ⟨#[]⟩ none 0 0 pa pc pl W2 (j4.old (hbx.mono hBw)).here (by omega) (by decide))
        obtain ⟨E, hE⟩ : ∃ E, chkP g n pl ⟨#[]⟩ 0 = E := ⟨_, rfl⟩
        have HQ := Lib.hid (show chkQ (g, n, pl, v, gs) = if E = 0 then (if 4 < pl.length then 4 else if pl.any oddP = true then 3 else if isFramed n = true then 14 else if 600 < v.size then 8 else if badKind n v gs.length = true then 5 else 0) else E by
          rw [← hE]; rfl)
        unfold propV at HCk
        rw [hE] at HCk
        have HW2 := Lib.hid hW2
        have Hbx := Lib.hid hbx
        have HBlk := Lib.hid hblk
        have HST := Lib.hid (fun (x : Int) (h0 : x ≠ 0) (hx : errP d (g, n, pl, v, gs) = x) => show chkN (d + 1) c = x by
          rw [HC.out, firstE_stop (errP d) HP.out HE.out (by rw [hx]; exact h0), hx])
        have HSQ := Lib.hid (fun (h0 : chkQ (g, n, pl, v, gs) ≠ 0) => show errP d (g, n, pl, v, gs) = chkQ (g, n, pl, v, gs) by unfold errP; rw [if_neg h0])
        have K := Lib.hid (And.intro k0 (And.intro k1 (And.intro k2 (And.intro k3 k4))))
        have C0 := Lib.hid c0
        clear hp hE j1 j2 j3 j4 i1 i2 i3 i4 s1 s2 s3 hW2 hbx hblk hpm hfp
        go_upto_block 1 with fail
        go_cut [2, 4, 5, 6, 7] from 19 to 121 (fun v2 v4 v5 v6 v7 wx => Hid (firstE ((ps.take (i + 1)).map (errP d)) = 0) ∧ Hid (Below w.heap.size w wx) ∧ w.heap.size < wx.heap.size ∧ wx.cell? ⟨w.heap.size, 0, none⟩ = some (.slice (some ⟨b, off, none⟩) ps.length cap))
        case first =>
          as_aux_lemma =>
          go_wp2_with fail
          rw [HW2.out]
          clear HW2 k0 k1 k2 k3 k4 c0
          refine HCk.out.mono ?_
          rintro e w3 ⟨rfl, hb3⟩
          have hzw2 : wo.heap.size < W2.heap.size := (Array.getElem?_eq_some_iff.1 HBlk.out).1
          have hz3 := hb3.size
          have HO3 := Lib.hid (show Below wo.heap.size wo w3 from Hbx.out.trans (hb3.mono (by omega)))
          have HBlk3 := Lib.hid ((hb3.block wo.heap.size hzw2).trans HBlk.out)
          have HB3 := Lib.hid (HB.out.trans (HO3.out.mono hBw))
          clear HCk hb3 HBlk Hbx
          by_cases hE0 : E = 0
          case neg =>
            have hE1 : (E != 0) = true := by simpa using hE0
            have hR := HST.out E hE0 (by rw [HSQ.out (by rw [HQ.out, if_neg hE0]; exact hE0), HQ.out, if_neg hE0])
            have HR := Lib.hid hR
            clear hR
            go_wp2_with fail
            go_ret
            exact ⟨by rw [HR.out]; rfl, HB3.out⟩
          subst hE0
          have q2 := (Lib.cell_of_heap HBlk3.out 2).trans (show _ = some (Value.slice pa pl.length pc) from rfl)
          by_cases h4 : 4 < pl.length
          · have h4z : (4 : Int) < (pl.length : Int) := by omega
            have hQ4 : chkQ (g, n, pl, v, gs) = 4 := by rw [HQ.out, if_pos rfl, if_pos h4]
            have HR := Lib.hid (HST.out 4 (by decide) (by rw [HSQ.out (by rw [hQ4]; decide), hQ4]))
            clear hQ4
            go_wp2_with fail
            go_ret
            exact ⟨by rw [HR.out]; rfl, HB3.out⟩
          have h4z : ¬ (4 : Int) < (pl.length : Int) := by omega
          have HQ4 := Lib.hid (HQ.out.trans (by rw [if_pos rfl, if_neg h4]))
          have hpz : wo.heap.size < w3.heap.size := by omega
          clear HQ
          go_wp2_with fail
          go_loopw [6] (fun v6 wr => ∃ k : Nat, k ≤ pl.length ∧ v6 = .int .i64 k ∧ Hid ((pl.take k).any oddP = false) ∧ Hid (Below w3.heap.size w3 wr)) (fun v6 _ => pl.length - (intOf v6).toNat)
          case atStart => exact ⟨0, Nat.zero_le _, rfl, Lib.hid rfl, Lib.hid (Below.refl _ _)⟩
          case round =>
            clear q2
            obtain ⟨k, hk, rfl, HA, HB⟩ := hrel
            have hbk3 := (HB.out.block wo.heap.size hpz).trans HBlk3.out
            have q2 := (Lib.cell_of_heap hbk3 2).trans (show _ = some (Value.slice pa pl.length pc) from rfl)
            have HOr := Lib.hid (show Below wo.heap.size wo wr from HO3.out.trans (HB.out.mono (by omega)))
            have HBk := Lib.hid hbk3
            have hzr := HB.out.size
            by_cases hkl : k < pl.length
            · have hkl2 : (k : Int) < (pl.length : Int) := by omega
              have hk20 : k ≤ 20 := by omega
              obtain ⟨x, hx⟩ := some_at hkl
              obtain ⟨bx, ox, rfl, hSx, hlx, ⟨hok1, hok2⟩, y0, y1⟩ := par_get (HJ4.out.old (HOr.out.mono hBw)) hx
              obtain ⟨xn, xv⟩ := x
              dsimp only at y0 y1 hok1 hok2
              obtain ⟨wi, rfl⟩ : ∃ x : World, x = wr := ⟨_, rfl⟩
              obtain ⟨W4, hW4⟩ : ∃ x, wi.alloc (.cells #[.string xn, .string xv] 58) = x := ⟨_, rfl⟩
              have hb4 : Below wi.heap.size wi W4 := by rw [← hW4]; exact (Below.refl _ _).alloc (Nat.le_refl _) _
              have hz4 : wi.heap.size < W4.heap.size := by rw [← hW4]; simp
              have c0 : W4.cell? ⟨wi.heap.size, 0, none⟩ = some (.string xn) := by rw [← hW4]; simp [go_sem]
              have c1 : W4.cell? ⟨wi.heap.size, 1, none⟩ = some (.string xv) := by rw [← hW4]; simp [go_sem]
              have Q0 := Lib.hid (show ∀ x : Bel W4, _ from fun x => x.cell c0 hz4)
              have Q1 := Lib.hid (show ∀ x : Bel W4, _ from fun x => x.cell c1 hz4)
              have HX := Lib.hid hx
              have HW4 := Lib.hid hW4
              have HB4 := Lib.hid (HB.out.trans (hb4.mono hzr))
              clear hx hW4 hb4 c0 c1 hok1
              go_upto_block 3 with fail
              go_cut [7] from 42 to 72 (fun v7 wx => Hid ((pl.take (k + 1)).any oddP = false) ∧ Hid (Below w3.heap.size w3 wx))
              case first =>
                as_aux_lemma =>
                go_upto_region 17 with fail
                rw [HW4.out]
                have HBW4 := Lib.hid (show Below w.heap.size w W4 from HB3.out.trans (HB4.out.mono (by omega)))
                have hz34 := HB4.out.size
                have hz3w : w.heap.size ≤ w3.heap.size := by omega
                have hE1 : decide (xn = kEnc) = decide (xn.toList = [69, 78, 67, 79, 68, 73, 78, 71]) := eq_list xn _
                have hE2 : decide (xn = kChr) = decide (xn.toList = [67, 72, 65, 82, 83, 69, 84]) := eq_list xn _
                have hE3 := empty_list xn
                by_cases hen : xn.toList = [69, 78, 67, 79, 68, 73, 78, 71]
                · have hodd : oddP (xn, xv) = true := by unfold oddP saysP; rw [hE1, decide_eq_true hen]; rfl
                  have e1 : (xn.toList == [69, 78, 67, 79, 68, 73, 78, 71]) = true := by simpa using hen
                  have h3q : chkQ (g, n, pl, v, gs) = 3 := by rw [HQ4.out, any_some HX.out hodd]; rfl
                  have HR := Lib.hid (HST.out 3 (by decide) (by rw [HSQ.out (by rw [h3q]; decide), h3q]))
                  clear h3q
                  have q0 := Q0.out
                  have q1 := Q1.out
                  clear hen hodd hE1 hE2 hE3 hkl hil
                  (refine wp_region_bel (by kernel_rfl) (by kernel_rfl) ?_; (repeat (any_goals (go_big_quiet_step ((fail))))); all_goals (refine wpQuiet_nil ?_; intro wq hw'; obtain ⟨⟨wq2, hwq⟩, hw''⟩ := hw'; have hw3 : wq = wq2 := hw''; clear hw''; subst hw3))
                  all_goals
                    go_wp2_with fail
                    go_ret
                    exact ⟨by rw [HR.out]; rfl, HBW4.out.trans (hwq.mono (by omega))⟩
                have e1 : (xn.toList == [69, 78, 67, 79, 68, 73, 78, 71]) = false := by simpa using hen
                by_cases hch : xn.toList = [67, 72, 65, 82, 83, 69, 84]
                · have hodd : oddP (xn, xv) = true := by unfold oddP saysP; rw [hE1, hE2, decide_eq_false hen, decide_eq_true hch]; rfl
                  have e2 : (xn.toList == [67, 72, 65, 82, 83, 69, 84]) = true := by simpa using hch
                  have h3q : chkQ (g, n, pl, v, gs) = 3 := by rw [HQ4.out, any_some HX.out hodd]; rfl
                  have HR := Lib.hid (HST.out 3 (by decide) (by rw [HSQ.out (by rw [h3q]; decide), h3q]))
                  clear h3q
                  have q0 := Q0.out
                  have q1 := Q1.out
                  clear hen hch hodd hE1 hE2 hE3 hkl hil
                  (refine wp_region_bel (by kernel_rfl) (by kernel_rfl) ?_; (repeat (any_goals (go_big_quiet_step ((fail))))); all_goals (refine wpQuiet_nil ?_; intro wq hw'; obtain ⟨⟨wq2, hwq⟩, hw''⟩ := hw'; have hw3 : wq = wq2 := hw''; clear hw''; subst hw3))
                  all_goals
                    go_wp2_with fail
                    go_ret
                    exact ⟨by rw [HR.out]; rfl, HBW4.out.trans (hwq.mono (by omega))⟩
                have e2 : (xn.toList == [67, 72, 65, 82, 83, 69, 84]) = false := by simpa using hch
                by_cases hem : xn.toList = []
                case neg =>
                  have hodd : oddP (xn, xv) = false := by unfold oddP saysP; simp only [hE1, hE2, hE3, decide_eq_false hen, decide_eq_false hch, decide_eq_false hem]; rfl
                  have e3 : (xn.toList == ([] : List UInt8)) = false := by simpa using hem
                  have e4 : xn.toList.isEmpty = false := by simpa using hem
                  have q0 := Q0.out
                  have q1 := Q1.out
                  have HN := Lib.hid (any_none HA.out HX.out hodd)
                  clear hen hch hem hodd hE1 hE2 hE3 hkl hil
                  (refine wp_region_bel (by kernel_rfl) (by kernel_rfl) ?_; (repeat (any_goals (go_big_quiet_step ((fail))))); all_goals (refine wpQuiet_nil ?_; intro wq hw'; obtain ⟨⟨wq2, hwq⟩, hw''⟩ := hw'; have hw3 : wq = wq2 := hw''; clear hw''; subst hw3))
                  all_goals
                    go_wp2_with fail
                    go_meet
                    case rel => exact ⟨HN, Lib.hid (HB4.out.trans (hwq.mono (by omega)))⟩
                have e3 : (xn.toList == ([] : List UInt8)) = true := by rw [hem]; rfl
                have e4 : xn.toList.isEmpty = true := by rw [hem]; rfl
                have HH := Lib.hid (fun w => (how_any xv w).mono (R' := BelowPost (.bool (isHow xv)) w) (fun e w' h => ⟨h.1, h.2 ▸ Below.refl _ _⟩))
                have HU := Lib.hid (fun w => upper_ref xv hok2 w)
                have HO := Lib.hid (show oddP (xn, xv) = (isHow xv || !decide (capS xv = xv)) by unfold oddP saysP; simp only [hE1, hE2, hE3, decide_eq_false hen, decide_eq_false hch, decide_eq_true hem]; simp)
                obtain ⟨hw, hhw⟩ : ∃ b, isHow xv = b := ⟨_, rfl⟩
                obtain ⟨u, hu⟩ : ∃ u, capS xv = u := ⟨_, rfl⟩
                rw [hhw] at HH HO
                rw [hu] at HU HO
                have hq := str_eq u xv
                obtain ⟨q, hq2⟩ : ∃ q, decide (u = xv) = q := ⟨_, rfl⟩
                rw [hq2] at hq HO
                clear hem hen hch hE1 hE2 hE3 hhw hu hq2
                cases hw with
                | true =>
                  have hodd : oddP (xn, xv) = true := by rw [HO.out]; rfl
                  have h3q : chkQ (g, n, pl, v, gs) = 3 := by rw [HQ4.out, any_some HX.out hodd]; rfl
                  have HR := Lib.hid (HST.out 3 (by decide) (by rw [HSQ.out (by rw [h3q]; decide), h3q]))
                  clear h3q
                  have q0 := Q0.out
                  have q1 := Q1.out
                  clear hodd hkl hil
                  (refine wp_region_bel (by kernel_rfl) (by kernel_rfl) ?_; (repeat (any_goals (go_big_quiet_step (((first | (go_at_call 46; exact Bel.call (HH.out _)) | (go_at_call 47; exact Bel.call (HU.out _)))))))); all_goals (refine wpQuiet_nil ?_; intro wq hw'; obtain ⟨⟨wq2, hwq⟩, hw''⟩ := hw'; have hw3 : wq = wq2 := hw''; clear hw''; subst hw3))
                  all_goals
                    go_wp2_with fail
                    go_ret
                    exact ⟨by rw [HR.out]; rfl, HBW4.out.trans (hwq.mono (by omega))⟩
                | false =>
                  cases q with
                  | false =>
                    have hodd : oddP (xn, xv) = true := by rw [HO.out]; rfl
                    have h3q : chkQ (g, n, pl, v, gs) = 3 := by rw [HQ4.out, any_some HX.out hodd]; rfl
                    have HR := Lib.hid (HST.out 3 (by decide) (by rw [HSQ.out (by rw [h3q]; decide), h3q]))
                    clear h3q
                    have q0 := Q0.out
                    have q1 := Q1.out
                    clear hodd hkl hil
                    (refine wp_region_bel (by kernel_rfl) (by kernel_rfl) ?_; (repeat (any_goals (go_big_quiet_step (((first | (go_at_call 46; exact Bel.call (HH.out _)) | (go_at_call 47; exact Bel.call (HU.out _)))))))); all_goals (refine wpQuiet_nil ?_; intro wq hw'; obtain ⟨⟨wq2, hwq⟩, hw''⟩ := hw'; have hw3 : wq = wq2 := hw''; clear hw''; subst hw3))
                    all_goals
                      go_wp2_with fail
                      go_ret
                      exact ⟨by rw [HR.out]; rfl, HBW4.out.trans (hwq.mono (by omega))⟩
                  | true =>
                    have hodd : oddP (xn, xv) = false := by rw [HO.out]; rfl
                    have q0 := Q0.out
                    have q1 := Q1.out
                    have HN := Lib.hid (any_none HA.out HX.out hodd)
                    clear hodd hkl hil
                    (refine wp_region_bel (by kernel_rfl) (by kernel_rfl) ?_; (repeat (any_goals (go_big_quiet_step (((first | (go_at_call 46; exact Bel.call (HH.out _)) | (go_at_call 47; exact Bel.call (HU.out _)))))))); all_goals (refine wpQuiet_nil ?_; intro wq hw'; obtain ⟨⟨wq2, hwq⟩, hw''⟩ := hw'; have hw3 : wq = wq2 := hw''; clear hw''; subst hw3))
                    all_goals
                      go_wp2_with fail
                      go_meet
                      case rel => exact ⟨HN, Lib.hid (HB4.out.trans (hwq.mono (by omega)))⟩
              case rest =>
                obtain ⟨HN, HBn⟩ := hcut
                clear q2 y0 y1 Q0 Q1 HX HW4
                go_wp2_with fail
                go_roundw
                case measure => simp [intOf]; omega
                case rel => exact ⟨k + 1, by omega, by go_num, HN, HBn⟩
            · obtain rfl : k = pl.length := by omega
              have HA0 := Lib.hid (show pl.any oddP = false by have := HA.out; rwa [List.take_length] at this)
              have HQ5 := Lib.hid (HQ4.out.trans (by rw [HA0.out, if_neg (by decide)]))
              have q1 := (Lib.cell_of_heap HBk.out 1).trans (show _ = some (Value.string n) from rfl)
              have HF := Lib.hid (framed_ref n wr)
              obtain ⟨fr, hfr⟩ : ∃ b, isFramed n = b := ⟨_, rfl⟩
              rw [hfr] at HF HQ5
              have hBr := HB3.out.trans (HB.out.mono (by omega))
              have HBr := Lib.hid hBr
              clear hfr hBr hkl hil
              go_wp2_with fail
              refine HF.out.mono ?_
              rintro e w6 ⟨rfl, rfl⟩
              clear q1 q2 HF
              cases fr with
              | true =>
                have h3q : chkQ (g, n, pl, v, gs) = 14 := by rw [HQ5.out]; rfl
                have HR := Lib.hid (HST.out 14 (by decide) (by rw [HSQ.out (by rw [h3q]; decide), h3q]))
                clear h3q
                go_wp2_with fail
                go_ret
                exact ⟨by rw [HR.out]; rfl, HBr.out⟩
              | false =>
              have HQ6 := Lib.hid (HQ5.out.trans (by rw [if_neg (by decide)]))
              obtain ⟨k0, k1, k2, k3, k4⟩ := K.out
              have c0 := (HOr.out.cell (p := ⟨w.heap.size, 0, none⟩) hz).trans C0.out
              replace k0 := (HOr.out.cell (p := ⟨b, off + i * 5, none⟩) hlt).trans k0
              replace k1 := (HOr.out.cell (p := ⟨b, off + i * 5 + 1, none⟩) hlt).trans k1
              replace k2 := (HOr.out.cell (p := ⟨b, off + i * 5 + 2, none⟩) hlt).trans k2
              replace k3 := (HOr.out.cell (p := ⟨b, off + i * 5 + 3, none⟩) hlt).trans k3
              replace k4 := (HOr.out.cell (p := ⟨b, off + i * 5 + 4, none⟩) hlt).trans k4
              have r0 := (Lib.cell_of_heap HBk.out 0).trans (show _ = some (Value.string g) from rfl)
              have r1 := (Lib.cell_of_heap HBk.out 1).trans (show _ = some (Value.string n) from rfl)
              have r2 := (Lib.cell_of_heap HBk.out 2).trans (show _ = some (Value.slice pa pl.length pc) from rfl)
              have r3 := (Lib.cell_of_heap HBk.out 3).trans (show _ = some (Value.string ⟨#[]⟩) from rfl)
              have r4 := (Lib.cell_of_heap HBk.out 4).trans (show _ = some (Value.slice none 0 0) from rfl)
              have rf : ∀ i, wr.frozen? ⟨wo.heap.size, i, none⟩ = false := fun i => Lib.frozen_of_heap HBk.out i
              clear HQ5
              go_upto_region 22 with fail
              clear c0 k0 k1 k2 k3 k4 r0 r1 r2 r3 r4 rf
              obtain ⟨W5, hW5⟩ : ∃ x, set5 wr wo.heap.size g n pa pl.length pc v aa gs.length ac = x := ⟨_, rfl⟩
              have HB5 := Lib.hid (hW5 ▸ set5_block HBk.out g n pa pl.length pc v aa gs.length ac)
              have hk5 : Kept (· = wo.heap.size) wr W5 := hW5 ▸ set5_kept wr wo.heap.size g n pa pl.length pc v aa gs.length ac
              have HBW5 := Lib.hid (show Below w.heap.size w W5 from HBr.out.trans (hk5.below (by omega) (fun k e => by omega)))
              have HO5 := Lib.hid (show Below wo.heap.size wo W5 from HOr.out.trans (hk5.below (by omega) (fun k e => by omega)))
              unfold set5 at hW5
              rw [hW5]
              have hz5 := hk5.size
              have r1 := (Lib.cell_of_heap HB5.out 1).trans (show _ = some (Value.string n) from rfl)
              have r3 := (Lib.cell_of_heap HB5.out 3).trans (show _ = some (Value.string v) from rfl)
              have r4 := (Lib.cell_of_heap HB5.out 4).trans (show _ = some (Value.slice aa gs.length ac) from rfl)
              clear hW5 hk5 HBk
              by_cases h6 : 600 < v.size
              · have h6z : (600 : Int) < (v.size : Int) := by omega
                have h3q : chkQ (g, n, pl, v, gs) = 8 := by rw [HQ6.out, if_pos h6]
                have HR := Lib.hid (HST.out 8 (by decide) (by rw [HSQ.out (by rw [h3q]; decide), h3q]))
                clear h3q
                go_wp2_with fail
                go_ret
                exact ⟨by rw [HR.out]; rfl, HBW5.out⟩
              have h6z : ¬ (600 : Int) < (v.size : Int) := by omega
              have HQ7 := Lib.hid (HQ6.out.trans (by rw [if_neg h6]))
              clear HQ6 h6
              have hKA : decide (n = kAge) = decide (n.toList = [65, 71, 69, 78, 84]) := eq_list n _
              have hKV := empty_list v
              by_cases h2 : 1 < gs.length
              · have h2z : (1 : Int) < (gs.length : Int) := by omega
                have h3q : chkQ (g, n, pl, v, gs) = 5 := by rw [HQ7.out, if_pos (by unfold badKind; rw [decide_eq_false (show ¬ gs.length = 1 by omega), decide_eq_true (show 0 < gs.length by omega)]; cases decide (n = kAge) <;> rfl)]
                have HR := Lib.hid (HST.out 5 (by decide) (by rw [HSQ.out (by rw [h3q]; decide), h3q]))
                clear h3q h2 hKA hKV hil2
                go_wp2_with fail
                go_ret
                exact ⟨by rw [HR.out]; rfl, HBW5.out⟩
              have h2z : ¬ (1 : Int) < (gs.length : Int) := by omega
              by_cases hag : n.toList = [65, 71, 69, 78, 84]
              · have e1 : (n.toList == [65, 71, 69, 78, 84]) = true := by simpa using hag
                by_cases h1 : gs.length = 1
                · have g1 : ((gs.length : Int) == 1) = true := by simp [h1]
                  have g0 : (0 : Int) < (gs.length : Int) := by omega
                  have H1 := Lib.hid h1
                  by_cases hv : v.toList = []
                  · have e2 : (v.toList != []) = false := by simpa using hv
                    have e3 : v.toList.isEmpty = true := by simpa using hv
                    have HQ8 := Lib.hid (show chkQ (g, n, pl, v, gs) = 0 by rw [HQ7.out, if_neg (by unfold badKind; rw [hKA, hKV, decide_eq_true hag, decide_eq_true hv, decide_eq_true h1]; simp)])
                    obtain ⟨a, ha⟩ := some_at (show 0 < gs.length by omega)
                    obtain ⟨b2, off2, v2, haa, hS2, hlt2, hr, hcv, hv1⟩ := crd_get HI4.out ha
                    obtain ⟨d2, ao2, cap2, hd2, hve, _, _, _, _⟩ := card_inv hr
                    obtain rfl : v2 = .slice ao2 a.props.length cap2 := by simpa using hve
                    subst haa
                    have hBww : Below w.heap.size wo W5 := HO5.out.mono hBw
                    have x0 := (hBww.cell (p := ⟨b2, off2 + 0, none⟩) hS2).trans hcv
                    rw [Nat.add_zero] at x0
                    have HCa := Lib.hid (HIH.out m' a #[.slice ao2 a.props.length cap2] W5 (HFA.out a (List.mem_of_getElem? ha)) ((rCrd d).mono _ _ _ _ _ (rel_old hr hBww) (fun b hb h2 => h2)))
                    have Ha := Lib.hid ha
                    obtain ⟨E2, hE2⟩ : ∃ x, chkN d a = x := ⟨_, rfl⟩
                    rw [hE2] at HCa
                    have HE2 := Lib.hid hE2
                    clear hKA hKV h1 hv hag h2 ha hr hcv hv1 hve hlt2 hd2 hBww hE2
                    go_wp2_with fail
                    refine HCa.out.mono ?_
                    rintro e w9 ⟨rfl, hb9⟩
                    have hz9 := hb9.size
                    have hz59 := HO5.out.size
                    have hc9 := (hb9.cell (p := ⟨w.heap.size, 0, none⟩) (by show w.heap.size < W5.heap.size; have := HO5.out.size; omega)).trans ((HO5.out.cell (p := ⟨w.heap.size, 0, none⟩) hz).trans C0.out)
                    have HB9 := Lib.hid (HBW5.out.trans (hb9.mono (by have := HO5.out.size; omega)))
                    clear HCa hb9 x0 r1 r3 r4
                    by_cases h0 : E2 = 0
                    · subst h0
                      have herr : errP d (g, n, pl, v, gs) = 0 := by
                        unfold errP; rw [HQ8.out, if_pos rfl]
                        have h1 := firstE_go (chkN d) Ha.out rfl HE2.out
                        have h2 : gs.take (0 + 1) = gs := List.take_of_length_le (by have := H1.out; omega)
                        rwa [h2] at h1
                      have HE9 := Lib.hid (firstE_go (errP d) HP.out HE.out herr)
                      have Hc9 := Lib.hid hc9
                      clear herr hc9
                      go_wp2_with fail
                      go_meet
                      case rel => exact ⟨HE9, HB9, by omega, Hc9.out⟩
                    · have h0z : (E2 != 0) = true := by simpa using h0
                      have hee : errP d (g, n, pl, v, gs) = E2 := by
                        unfold errP; rw [HQ8.out, if_pos rfl]
                        rw [firstE_stop (chkN d) Ha.out rfl (by rw [HE2.out]; exact h0), HE2.out]
                      have HR := Lib.hid (HST.out E2 h0 hee)
                      clear hee h0
                      go_wp2_with fail
                      go_ret
                      exact ⟨by rw [HR.out]; rfl, HB9.out⟩
                  · have e2 : (v.toList != []) = true := by simpa using hv
                    have e3 : v.toList.isEmpty = false := by simpa using hv
                    have h3q : chkQ (g, n, pl, v, gs) = 5 := by rw [HQ7.out, if_pos (by unfold badKind; rw [hKA, hKV, decide_eq_true hag, decide_eq_false hv]; simp)]
                    have HR := Lib.hid (HST.out 5 (by decide) (by rw [HSQ.out (by rw [h3q]; decide), h3q]))
                    clear h3q h1 h2 hag hv hKA hKV hil2
                    go_wp2_with fail
                    go_ret
                    exact ⟨by rw [HR.out]; rfl, HBW5.out⟩
                · have g1 : ((gs.length : Int) == 1) = false := by simp; omega
                  have h3q : chkQ (g, n, pl, v, gs) = 5 := by rw [HQ7.out, if_pos (by unfold badKind; rw [hKA, decide_eq_true hag, decide_eq_false h1]; simp)]
                  have HR := Lib.hid (HST.out 5 (by decide) (by rw [HSQ.out (by rw [h3q]; decide), h3q]))
                  clear h3q h1 h2 hag hKA hKV hil2
                  go_wp2_with fail
                  go_ret
                  exact ⟨by rw [HR.out]; rfl, HBW5.out⟩
              · have e1 : (n.toList == [65, 71, 69, 78, 84]) = false := by simpa using hag
                by_cases h1 : gs.length = 1
                · have g1 : ((gs.length : Int) == 1) = true := by simp [h1]
                  have h3q : chkQ (g, n, pl, v, gs) = 5 := by rw [HQ7.out, if_pos (by unfold badKind; rw [hKA, decide_eq_false hag, decide_eq_true (show 0 < gs.length by omega)]; simp)]
                  have HR := Lib.hid (HST.out 5 (by decide) (by rw [HSQ.out (by rw [h3q]; decide), h3q]))
                  clear h3q h1 h2 hag hKA hKV hil2
                  go_wp2_with fail
                  go_ret
                  exact ⟨by rw [HR.out]; rfl, HBW5.out⟩
                · have g1 : ((gs.length : Int) == 1) = false := by simp; omega
                  have h0 : gs.length = 0 := by omega
                  have hq0 : chkQ (g, n, pl, v, gs) = 0 := by rw [HQ7.out, if_neg (by unfold badKind; rw [hKA, decide_eq_false hag, decide_eq_false (show ¬ 0 < gs.length by omega)]; simp)]
                  have herr : errP d (g, n, pl, v, gs) = 0 := by
                    unfold errP; rw [hq0, if_pos rfl]
                    rw [List.eq_nil_of_length_eq_zero h0]; rfl
                  have HE9 := Lib.hid (firstE_go (errP d) HP.out HE.out herr)
                  have hc9 := (HO5.out.cell (p := ⟨w.heap.size, 0, none⟩) hz).trans C0.out
                  clear herr hq0 h0 h1 h2 hag hKA hKV
                  go_wp2_with fail
                  go_meet
                  case rel => exact ⟨HE9, HBW5, by omega, hc9⟩
        case rest =>
          obtain ⟨HE9, HB9, hz9, hc9⟩ := hcut
          clear k0 k1 k2 k3 k4 c0
          go_wp2_with fail
          go_roundw
          case measure => simp [intOf]; omega
          case rel => exact ⟨i + 1, by omega, by go_num, HE9, HB9, hz9, hc9⟩
      · obtain rfl : i = ps.length := by omega
        have HR := Lib.hid (show chkN (d + 1) c = 0 by rw [HC.out]; have := HE.out; rwa [List.take_length] at this)
        go_wp2_with fail
        go_ret
        exact ⟨by rw [HR.out]; rfl, HB.out⟩
end Go.Proofs.YtcfbmfcobpfcjaaDoor
