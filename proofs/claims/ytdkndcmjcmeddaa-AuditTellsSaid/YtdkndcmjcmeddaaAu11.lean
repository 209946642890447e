/- The document's Sound. -/
import Derived.Test.YtdkndcmjcmeddaaAu10
namespace Go.Proofs.Ytdkndcmjcmeddaa
open Go.RowKit Lift
set_option linter.unusedSimpArgs false
set_option linter.unusedVariables false
/-- The sides' box and what they hold, in a world. -/
structure RBox (a : Nat) (s : Sd) (W : World) : Prop where
  lt : a < W.heap.size
  ok : SdOk W.heap.size W s
  bx : SdBox W a s
theorem RBox.next {a : Nat} {s : Sd} {W w' : World} (h : RBox a s W) (hb : Below W.heap.size W w') : RBox a s w' :=
  ⟨Nat.lt_of_lt_of_le h.lt hb.size, (h.ok.old hb).up hb.size, h.bx.old hb h.lt⟩
theorem int_info : (Try.prog.info? 3).map (fun i => (i.zero, i.size, i.bytes)) = some (some (.int .i64 0), 1, 8) := by kernel_rfl
def hit (c d : Rec) : Bool := decide (0 < c.2.2.2.2.1) && decide (c.2.2.2.2.1 = d.2.2.2.2.1)
def twF : List Rec → List Rec → Bool
  | _, [] => false
  | pre, c :: r => pre.any (hit c) || twF (pre ++ [c]) r
def refE (s : Sd) : Int :=
  if risL 0 (s.e.map (·.1)) then if risL 0 (s.g.map (·.1)) then if risL 0 (s.p.map (·.1)) then if risL 0 (s.r.map (·.1)) then
    if (s.e.map (·.1)).any (fun n => inB (s.g.map (·.1)) n) then 11 else if twF [] s.r then 11 else
    if (s.p.map (·.1)).any (fun n => !inB (s.e.map (·.1)) n && !inB (s.g.map (·.1)) n) then 10 else
    if s.e.any (fun c => emptyB c.2.2.2) then 3 else if s.r.any (fun c => c.2.1 != !emptyB c.2.2.2.1) then 3 else 0
    else 15 else 15 else 15 else 15
set_option maxHeartbeats 16000000 in
set_option maxRecDepth 100000 in
theorem sound_ref (s : Sd) (w : World) (hs : SdOk w.heap.size w s) : Calls Try.prog 8 #[sdV s] w (BelowPost (.int .i64 (refE s)) w) := by
  obtain ⟨W0, hW0⟩ : ∃ W0, w.alloc (.cells #[.slice s.ea s.e.length s.ec, .slice s.ga s.g.length s.gc, .slice s.pa s.p.length s.pc, .slice s.ra s.r.length s.rc] 26) = W0 := ⟨_, rfl⟩
  have hb0 : Below w.heap.size w W0 := by rw [← hW0]; exact (Below.refl _ _).alloc (Nat.le_refl _) _
  have hsz : W0.heap.size = w.heap.size + 1 := by rw [← hW0]; simp
  have hbx : SdBox W0 w.heap.size s := by rw [← hW0]; exact ⟨by simp [go_sem], by simp [go_sem], by simp [go_sem], by simp [go_sem]⟩
  have hs0 : SdOk W0.heap.size W0 s := (hs.old hb0).up (by omega)
  have HR0 := Lib.hid (show RBox w.heap.size s W0 from ⟨by omega, hs0, hbx⟩)
  have hel := hs.el
  have hgl := hs.gl
  have hpl := hs.pl
  have hrl := hs.rl
  have HT0 := Lib.hid hb0
  obtain ⟨i0, hi, hz0, hz1, hz2⟩ := info_parts int_info
  have HI := Lib.hid hi; have HZ0 := Lib.hid hz0; have HZ1 := Lib.hid hz1; have HZ2 := Lib.hid hz2
  obtain ⟨E, hE⟩ : ∃ E, refE s = E := ⟨_, rfl⟩
  rw [hE]
  have HE := Lib.hid hE
  clear hi hz0 hz1 hz2 hs hsz hb0 hs0 hbx hE
  unfold sdV
  have hst := Below.refl W0.heap.size W0
  go_enter Try.func8, Try.ntmps8
  go_wp2_with fail
  go_loopw [3, 7] (fun va vi wr => ∃ k : Nat, k ≤ s.e.length ∧ vi = .int .i64 k ∧ Own (Rd.int .i64) (fun _ => True) wr W0.heap.size 3 va ((s.e.take k).map (·.1)) ∧ Below W0.heap.size W0 wr) (fun _ vi _ => s.e.length - (intOf vi).toNat)
  case atStart => exact ⟨0, by omega, rfl, Own.nil _ _ _ _ _, hst⟩
  case round =>
    obtain ⟨k, hk, rfl, hO, hbr⟩ := hrel
    have HRr := Lib.hid (HR0.out.next hbr)
    obtain ⟨x0, x1, x2, x3⟩ := HRr.out.bx
    have hlt := HRr.out.lt
    by_cases hkl : k < s.e.length
    · obtain ⟨c, hcl⟩ := some_at hkl
      obtain ⟨bb, oo, hao, hs1, hb1, hok, y0, y1, y2, y3⟩ := ent_get HRr.out.ok.e hcl
      rw [hao] at x0
      have hkl2 : (k : Int) < (s.e.length : Int) := by omega
      have g1 : Wf c.1 := hok.1
      have hlim : k ≤ 1000 := by omega
      have hlen : ((s.e.take k).map (·.1)).length = k := by simp; omega
      have hm1 : ((s.e.take k).map (·.1)) ++ [c.1] = (s.e.map (·.1)).take (k + 1) := by rw [← List.map_take, take_at2 hcl, List.map_append]; rfl
      have HM := Lib.hid hm1
      have HS0 := Lib.hid hbr.size
      clear hcl hok hm1
      go_wp2_with (first | (at_builtin; refine wpList_push (Rd.int .i64) rfl _ _ 59 rfl W0.heap.size 3 i0 _ 8 Try.underlying59 HI.out HZ0.out HZ1.out HZ2.out rfl (by decide) (fun _ => True) _ ((s.e.take k).map (·.1)) rfl hO [.int .i64 c.1] c.1 _ rfl (by simp) ⟨rfl, g1⟩ (by simp [Value.oneCell']) (by rw [hlen]; unfold maxLen; omega) (by rw [hlen]; omega) HS0.out ?_; intro v2 w2 hO2 hK2 hw2))
      have hB2 := hO.kbelow (B := W0.heap.size) (Nat.le_refl _) HS0.out hK2
      rw [HM.out] at hO2
      go_roundw
      case measure => simp [intOf]; omega
      case rel => exact ⟨k + 1, by omega, by go_num, hO2, hbr.trans hB2⟩
    · obtain rfl : k = s.e.length := by omega
      rw [List.take_length] at hO
      obtain ⟨aa, ca, ea⟩ := hO.form
      rw [List.length_map] at ea
      subst ea
      obtain ⟨W1, hW1⟩ : ∃ W, W = wr := ⟨_, rfl⟩
      have HR1 := Lib.hid (show RBox w.heap.size s W1 by rw [hW1]; exact HRr.out)
      have HLa := Lib.hid (show SlAt (Rd.int .i64) (· < W1.heap.size) W1 aa (s.e.map (·.1)) by rw [hW1]; exact hO.here)
      have HT1 := Lib.hid (show Below w.heap.size w W1 by rw [hW1]; exact chain HT0.out hbr)
      have hst : Below W1.heap.size W1 wr := by rw [hW1]; exact Below.refl _ _
      have HU1 := Lib.hid (show Below W0.heap.size W0 W1 by rw [hW1]; exact hbr)
      clear hW1 hO hbr HRr HR0 HT0
      go_wp2_with fail
      go_loopw [4, 8] (fun va vi wr => ∃ k : Nat, k ≤ s.g.length ∧ vi = .int .i64 k ∧ Own (Rd.int .i64) (fun _ => True) wr W1.heap.size 3 va ((s.g.take k).map (·.1)) ∧ Below W1.heap.size W1 wr) (fun _ vi _ => s.g.length - (intOf vi).toNat)
      case atStart => exact ⟨0, by omega, rfl, Own.nil _ _ _ _ _, hst⟩
      case round =>
        obtain ⟨k, hk, rfl, hO, hbr⟩ := hrel
        have HRr := Lib.hid (HR1.out.next hbr)
        obtain ⟨x0, x1, x2, x3⟩ := HRr.out.bx
        have hlt := HRr.out.lt
        by_cases hkl : k < s.g.length
        · obtain ⟨c, hcl⟩ := some_at hkl
          obtain ⟨bb, oo, hao, hs1, hb1, hok, y0, y1, y2, y3⟩ := ent_get HRr.out.ok.g hcl
          rw [hao] at x1
          have hkl2 : (k : Int) < (s.g.length : Int) := by omega
          have g1 : Wf c.1 := hok.1
          have hlim : k ≤ 1000 := by omega
          have hlen : ((s.g.take k).map (·.1)).length = k := by simp; omega
          have hm1 : ((s.g.take k).map (·.1)) ++ [c.1] = (s.g.map (·.1)).take (k + 1) := by rw [← List.map_take, take_at2 hcl, List.map_append]; rfl
          have HM := Lib.hid hm1
          have HS0 := Lib.hid hbr.size
          clear hcl hok hm1
          go_wp2_with (first | (at_builtin; refine wpList_push (Rd.int .i64) rfl _ _ 59 rfl W1.heap.size 3 i0 _ 8 Try.underlying59 HI.out HZ0.out HZ1.out HZ2.out rfl (by decide) (fun _ => True) _ ((s.g.take k).map (·.1)) rfl hO [.int .i64 c.1] c.1 _ rfl (by simp) ⟨rfl, g1⟩ (by simp [Value.oneCell']) (by rw [hlen]; unfold maxLen; omega) (by rw [hlen]; omega) HS0.out ?_; intro v2 w2 hO2 hK2 hw2))
          have hB2 := hO.kbelow (B := W1.heap.size) (Nat.le_refl _) HS0.out hK2
          rw [HM.out] at hO2
          go_roundw
          case measure => simp [intOf]; omega
          case rel => exact ⟨k + 1, by omega, by go_num, hO2, hbr.trans hB2⟩
        · obtain rfl : k = s.g.length := by omega
          rw [List.take_length] at hO
          obtain ⟨ab, cb, eb⟩ := hO.form
          rw [List.length_map] at eb
          subst eb
          obtain ⟨W2, hW2⟩ : ∃ W, W = wr := ⟨_, rfl⟩
          have HR2 := Lib.hid (show RBox w.heap.size s W2 by rw [hW2]; exact HRr.out)
          have HLb := Lib.hid (show SlAt (Rd.int .i64) (· < W2.heap.size) W2 ab (s.g.map (·.1)) by rw [hW2]; exact hO.here)
          have HT2 := Lib.hid (show Below w.heap.size w W2 by rw [hW2]; exact chain HT1.out hbr)
          have hst : Below W2.heap.size W2 wr := by rw [hW2]; exact Below.refl _ _
          have HU2 := Lib.hid (show Below W1.heap.size W1 W2 by rw [hW2]; exact hbr)
          clear hW2 hO hbr HRr HR1 HT1
          go_wp2_with fail
          go_loopw [5, 9] (fun va vi wr => ∃ k : Nat, k ≤ s.p.length ∧ vi = .int .i64 k ∧ Own (Rd.int .i64) (fun _ => True) wr W2.heap.size 3 va ((s.p.take k).map (·.1)) ∧ Below W2.heap.size W2 wr) (fun _ vi _ => s.p.length - (intOf vi).toNat)
          case atStart => exact ⟨0, by omega, rfl, Own.nil _ _ _ _ _, hst⟩
          case round =>
            obtain ⟨k, hk, rfl, hO, hbr⟩ := hrel
            have HRr := Lib.hid (HR2.out.next hbr)
            obtain ⟨x0, x1, x2, x3⟩ := HRr.out.bx
            have hlt := HRr.out.lt
            by_cases hkl : k < s.p.length
            · obtain ⟨c, hcl⟩ := some_at hkl
              obtain ⟨bb, oo, hao, hs1, hb1, hok, y0, y1, y2⟩ := pai_get HRr.out.ok.p hcl
              rw [hao] at x2
              have hkl2 : (k : Int) < (s.p.length : Int) := by omega
              have g1 : Wf c.1 := hok.1
              have hlim : k ≤ 1000 := by omega
              have hlen : ((s.p.take k).map (·.1)).length = k := by simp; omega
              have hm1 : ((s.p.take k).map (·.1)) ++ [c.1] = (s.p.map (·.1)).take (k + 1) := by rw [← List.map_take, take_at2 hcl, List.map_append]; rfl
              have HM := Lib.hid hm1
              have HS0 := Lib.hid hbr.size
              clear hcl hok hm1
              go_wp2_with (first | (at_builtin; refine wpList_push (Rd.int .i64) rfl _ _ 59 rfl W2.heap.size 3 i0 _ 8 Try.underlying59 HI.out HZ0.out HZ1.out HZ2.out rfl (by decide) (fun _ => True) _ ((s.p.take k).map (·.1)) rfl hO [.int .i64 c.1] c.1 _ rfl (by simp) ⟨rfl, g1⟩ (by simp [Value.oneCell']) (by rw [hlen]; unfold maxLen; omega) (by rw [hlen]; omega) HS0.out ?_; intro v2 w2 hO2 hK2 hw2))
              have hB2 := hO.kbelow (B := W2.heap.size) (Nat.le_refl _) HS0.out hK2
              rw [HM.out] at hO2
              go_roundw
              case measure => simp [intOf]; omega
              case rel => exact ⟨k + 1, by omega, by go_num, hO2, hbr.trans hB2⟩
            · obtain rfl : k = s.p.length := by omega
              rw [List.take_length] at hO
              obtain ⟨ac, cc, ec⟩ := hO.form
              rw [List.length_map] at ec
              subst ec
              obtain ⟨W3, hW3⟩ : ∃ W, W = wr := ⟨_, rfl⟩
              have HR3 := Lib.hid (show RBox w.heap.size s W3 by rw [hW3]; exact HRr.out)
              have HLc := Lib.hid (show SlAt (Rd.int .i64) (· < W3.heap.size) W3 ac (s.p.map (·.1)) by rw [hW3]; exact hO.here)
              have HT3 := Lib.hid (show Below w.heap.size w W3 by rw [hW3]; exact chain HT2.out hbr)
              have hst : Below W3.heap.size W3 wr := by rw [hW3]; exact Below.refl _ _
              have HU3 := Lib.hid (show Below W2.heap.size W2 W3 by rw [hW3]; exact hbr)
              clear hW3 hO hbr HRr HR2 HT2
              go_wp2_with fail
              go_loopw [6, 10] (fun va vi wr => ∃ k : Nat, k ≤ s.r.length ∧ vi = .int .i64 k ∧ Own (Rd.int .i64) (fun _ => True) wr W3.heap.size 3 va ((s.r.take k).map (·.1)) ∧ Below W3.heap.size W3 wr) (fun _ vi _ => s.r.length - (intOf vi).toNat)
              case atStart => exact ⟨0, by omega, rfl, Own.nil _ _ _ _ _, hst⟩
              case round =>
                obtain ⟨k, hk, rfl, hO, hbr⟩ := hrel
                have HRr := Lib.hid (HR3.out.next hbr)
                obtain ⟨x0, x1, x2, x3⟩ := HRr.out.bx
                have hlt := HRr.out.lt
                by_cases hkl : k < s.r.length
                · obtain ⟨c, hcl⟩ := some_at hkl
                  obtain ⟨bb, oo, hao, hs1, hb1, hok, y0, y1, y2, y3, y4, y5, y6, y7, y8⟩ := rec_get HRr.out.ok.r hcl
                  rw [hao] at x3
                  have hkl2 : (k : Int) < (s.r.length : Int) := by omega
                  have g1 : Wf c.1 := hok.1
                  have hlim : k ≤ 1000 := by omega
                  have hlen : ((s.r.take k).map (·.1)).length = k := by simp; omega
                  have hm1 : ((s.r.take k).map (·.1)) ++ [c.1] = (s.r.map (·.1)).take (k + 1) := by rw [← List.map_take, take_at2 hcl, List.map_append]; rfl
                  have HM := Lib.hid hm1
                  have HS0 := Lib.hid hbr.size
                  clear hcl hok hm1
                  go_wp2_with (first | (at_builtin; refine wpList_push (Rd.int .i64) rfl _ _ 59 rfl W3.heap.size 3 i0 _ 8 Try.underlying59 HI.out HZ0.out HZ1.out HZ2.out rfl (by decide) (fun _ => True) _ ((s.r.take k).map (·.1)) rfl hO [.int .i64 c.1] c.1 _ rfl (by simp) ⟨rfl, g1⟩ (by simp [Value.oneCell']) (by rw [hlen]; unfold maxLen; omega) (by rw [hlen]; omega) HS0.out ?_; intro v2 w2 hO2 hK2 hw2))
                  have hB2 := hO.kbelow (B := W3.heap.size) (Nat.le_refl _) HS0.out hK2
                  rw [HM.out] at hO2
                  go_roundw
                  case measure => simp [intOf]; omega
                  case rel => exact ⟨k + 1, by omega, by go_num, hO2, hbr.trans hB2⟩
                · obtain rfl : k = s.r.length := by omega
                  rw [List.take_length] at hO
                  obtain ⟨ad, cd, ed⟩ := hO.form
                  rw [List.length_map] at ed
                  subst ed
                  obtain ⟨W4, hW4⟩ : ∃ W, W = wr := ⟨_, rfl⟩
                  have HR4 := Lib.hid (show RBox w.heap.size s W4 by rw [hW4]; exact HRr.out)
                  have HLd := Lib.hid (show SlAt (Rd.int .i64) (· < W4.heap.size) W4 ad (s.r.map (·.1)) by rw [hW4]; exact hO.here)
                  have HT4 := Lib.hid (show Below w.heap.size w W4 by rw [hW4]; exact chain HT3.out hbr)
                  have hst : Below W4.heap.size W4 wr := by rw [hW4]; exact Below.refl _ _
                  have HU4 := Lib.hid (show Below W3.heap.size W3 W4 by rw [hW4]; exact hbr)
                  clear hW4 hO hbr HRr HR3 HT3
                  have HA := Lib.hid (show ∀ w', Below W4.heap.size W4 w' → SlAt (Rd.int .i64) (· < w'.heap.size) w' aa (s.e.map (·.1)) from fun w' h => by
                    have hq := chain HU2.out (chain HU3.out (chain HU4.out h)); exact (HLa.out.old hq).mono (fun b hb _ => by have := hq.size; omega))
                  have HB := Lib.hid (show ∀ w', Below W4.heap.size W4 w' → SlAt (Rd.int .i64) (· < w'.heap.size) w' ab (s.g.map (·.1)) from fun w' h => by
                    have hq := chain HU3.out (chain HU4.out h); exact (HLb.out.old hq).mono (fun b hb _ => by have := hq.size; omega))
                  have HC := Lib.hid (show ∀ w', Below W4.heap.size W4 w' → SlAt (Rd.int .i64) (· < w'.heap.size) w' ac (s.p.map (·.1)) from fun w' h => by
                    have hq := chain HU4.out h; exact (HLc.out.old hq).mono (fun b hb _ => by have := hq.size; omega))
                  have HD := Lib.hid (show ∀ w', Below W4.heap.size W4 w' → SlAt (Rd.int .i64) (· < w'.heap.size) w' ad (s.r.map (·.1)) from fun w' h => (HLd.out.old h).mono (fun b hb _ => by have := h.size; omega))
                  have H1 := Lib.hid (show ∀ w', Below W4.heap.size W4 w' → Calls Try.prog 29 #[.slice aa s.e.length ca] w' (FromPost W4.heap.size W4 (.bool (risL 0 (s.e.map (·.1))))) from fun w' h => by
                    have := from_post h (rising_ref aa ca (s.e.map (·.1)) w' (HA.out w' h) (by simp; omega)); rwa [List.length_map] at this)
                  have H2 := Lib.hid (show ∀ w', Below W4.heap.size W4 w' → Calls Try.prog 29 #[.slice ab s.g.length cb] w' (FromPost W4.heap.size W4 (.bool (risL 0 (s.g.map (·.1))))) from fun w' h => by
                    have := from_post h (rising_ref ab cb (s.g.map (·.1)) w' (HB.out w' h) (by simp; omega)); rwa [List.length_map] at this)
                  have H3 := Lib.hid (show ∀ w', Below W4.heap.size W4 w' → Calls Try.prog 29 #[.slice ac s.p.length cc] w' (FromPost W4.heap.size W4 (.bool (risL 0 (s.p.map (·.1))))) from fun w' h => by
                    have := from_post h (rising_ref ac cc (s.p.map (·.1)) w' (HC.out w' h) (by simp; omega)); rwa [List.length_map] at this)
                  have H4 := Lib.hid (show ∀ w', Below W4.heap.size W4 w' → Calls Try.prog 29 #[.slice ad s.r.length cd] w' (FromPost W4.heap.size W4 (.bool (risL 0 (s.r.map (·.1))))) from fun w' h => by
                    have := from_post h (rising_ref ad cd (s.r.map (·.1)) w' (HD.out w' h) (by simp; omega)); rwa [List.length_map] at this)
                  have H5 := Lib.hid (show ∀ w' n, Below W4.heap.size W4 w' → Calls Try.prog 30 #[.slice aa s.e.length ca, .int .i64 n] w' (FromPost W4.heap.size W4 (.bool (inB (s.e.map (·.1)) n))) from fun w' n h => by
                    have := from_post h (in_ref aa ca (s.e.map (·.1)) n w' (HA.out w' h) (by simp; omega)); rwa [List.length_map] at this)
                  have H6 := Lib.hid (show ∀ w' n, Below W4.heap.size W4 w' → Calls Try.prog 30 #[.slice ab s.g.length cb, .int .i64 n] w' (FromPost W4.heap.size W4 (.bool (inB (s.g.map (·.1)) n))) from fun w' n h => by
                    have := from_post h (in_ref ab cb (s.g.map (·.1)) n w' (HB.out w' h) (by simp; omega)); rwa [List.length_map] at this)
                  clear HLa HLb HLc HLd HB HD HU1 HU2 HU3 HU4
                  have hE := HE.out
                  unfold refE at hE
                  obtain ⟨b1, hb1⟩ : ∃ b, risL 0 (s.e.map (·.1)) = b := ⟨_, rfl⟩
                  obtain ⟨b2, hb2⟩ : ∃ b, risL 0 (s.g.map (·.1)) = b := ⟨_, rfl⟩
                  obtain ⟨b3, hb3⟩ : ∃ b, risL 0 (s.p.map (·.1)) = b := ⟨_, rfl⟩
                  obtain ⟨b4, hb4⟩ : ∃ b, risL 0 (s.r.map (·.1)) = b := ⟨_, rfl⟩
                  rw [hb1, hb2, hb3, hb4] at hE
                  rw [hb1] at H1; rw [hb2] at H2; rw [hb3] at H3; rw [hb4] at H4
                  clear hb1 hb2 hb3 hb4 HE
                  have HE := Lib.hid hE
                  clear hE
                  cases b1 with
                  | false =>
                    go_wp2_with (first | ((with_reducible refine (H1.out _ hst).mono ?_); rintro e w3 ⟨rfl, hst⟩) | ((with_reducible refine (H2.out _ hst).mono ?_); rintro e w3 ⟨rfl, hst⟩) | ((with_reducible refine (H3.out _ hst).mono ?_); rintro e w3 ⟨rfl, hst⟩) | ((with_reducible refine (H4.out _ hst).mono ?_); rintro e w3 ⟨rfl, hst⟩))
                    go_ret
                    exact ⟨ret_int (by rw [← HE.out]; rfl), chain HT4.out hst⟩
                  | true =>
                  cases b2 with
                  | false =>
                    go_wp2_with (first | ((with_reducible refine (H1.out _ hst).mono ?_); rintro e w3 ⟨rfl, hst⟩) | ((with_reducible refine (H2.out _ hst).mono ?_); rintro e w3 ⟨rfl, hst⟩) | ((with_reducible refine (H3.out _ hst).mono ?_); rintro e w3 ⟨rfl, hst⟩) | ((with_reducible refine (H4.out _ hst).mono ?_); rintro e w3 ⟨rfl, hst⟩))
                    go_ret
                    exact ⟨ret_int (by rw [← HE.out]; rfl), chain HT4.out hst⟩
                  | true =>
                  cases b3 with
                  | false =>
                    go_wp2_with (first | ((with_reducible refine (H1.out _ hst).mono ?_); rintro e w3 ⟨rfl, hst⟩) | ((with_reducible refine (H2.out _ hst).mono ?_); rintro e w3 ⟨rfl, hst⟩) | ((with_reducible refine (H3.out _ hst).mono ?_); rintro e w3 ⟨rfl, hst⟩) | ((with_reducible refine (H4.out _ hst).mono ?_); rintro e w3 ⟨rfl, hst⟩))
                    go_ret
                    exact ⟨ret_int (by rw [← HE.out]; rfl), chain HT4.out hst⟩
                  | true =>
                  cases b4 with
                  | false =>
                    go_wp2_with (first | ((with_reducible refine (H1.out _ hst).mono ?_); rintro e w3 ⟨rfl, hst⟩) | ((with_reducible refine (H2.out _ hst).mono ?_); rintro e w3 ⟨rfl, hst⟩) | ((with_reducible refine (H3.out _ hst).mono ?_); rintro e w3 ⟨rfl, hst⟩) | ((with_reducible refine (H4.out _ hst).mono ?_); rintro e w3 ⟨rfl, hst⟩))
                    go_ret
                    exact ⟨ret_int (by rw [← HE.out]; rfl), chain HT4.out hst⟩
                  | true =>
                  have hE := HE.out
                  simp only [if_true] at hE
                  clear HE
                  obtain ⟨b5, hb5⟩ : ∃ b, (s.e.map (·.1)).any (fun n => inB (s.g.map (·.1)) n) = b := ⟨_, rfl⟩
                  obtain ⟨b6, hb6⟩ : ∃ b, twF [] s.r = b := ⟨_, rfl⟩
                  obtain ⟨b7, hb7⟩ : ∃ b, (s.p.map (·.1)).any (fun n => !inB (s.e.map (·.1)) n && !inB (s.g.map (·.1)) n) = b := ⟨_, rfl⟩
                  obtain ⟨b8, hb8⟩ : ∃ b, s.e.any (fun c => emptyB c.2.2.2) = b := ⟨_, rfl⟩
                  obtain ⟨b9, hb9⟩ : ∃ b, s.r.any (fun c => c.2.1 != !emptyB c.2.2.2.1) = b := ⟨_, rfl⟩
                  rw [hb5, hb6, hb7, hb8, hb9] at hE
                  have HE := Lib.hid hE; have HB5 := Lib.hid hb5; have HB6 := Lib.hid hb6; have HB7 := Lib.hid hb7; have HB8 := Lib.hid hb8; have HB9 := Lib.hid hb9
                  clear hE hb5 hb6 hb7 hb8 hb9
                  go_wp2_with (first | ((with_reducible refine (H1.out _ hst).mono ?_); rintro e w3 ⟨rfl, hst⟩) | ((with_reducible refine (H2.out _ hst).mono ?_); rintro e w3 ⟨rfl, hst⟩) | ((with_reducible refine (H3.out _ hst).mono ?_); rintro e w3 ⟨rfl, hst⟩) | ((with_reducible refine (H4.out _ hst).mono ?_); rintro e w3 ⟨rfl, hst⟩))
                  clear H1 H2 H3 H4
                  go_loopw [11] (fun vi wr => ∃ k : Nat, k ≤ s.e.length ∧ vi = .int .i64 k ∧ Hid ((s.e.map (·.1)).any (fun n => inB (s.g.map (·.1)) n) = ((s.e.map (·.1)).drop k).any (fun n => inB (s.g.map (·.1)) n)) ∧ Below W4.heap.size W4 wr) (fun vi _ => s.e.length - (intOf vi).toNat)
                  case atStart => exact ⟨0, by omega, rfl, Lib.hid rfl, hst⟩
                  case round =>
                    obtain ⟨k, hk, rfl, HK, hbr⟩ := hrel
                    by_cases hkl : k < s.e.length
                    · obtain ⟨n, hcl⟩ := some_at (l := s.e.map (·.1)) (k := k) (by simpa using hkl)
                      obtain ⟨bb, oo, hao, hs1, hb1, y0, hw⟩ := int_get (HA.out _ hbr) hcl
                      subst hao
                      have hkl2 : (k : Int) < (s.e.length : Int) := by omega
                      have hlim : k ≤ 1000 := by omega
                      have HQ := Lib.hid (H6.out wr n hbr)
                      obtain ⟨f, hf⟩ : ∃ f, inB (s.g.map (·.1)) n = f := ⟨_, rfl⟩
                      rw [hf] at HQ
                      have HK2 := Lib.hid (HK.out.trans (show ((s.e.map (·.1)).drop k).any (fun n => inB (s.g.map (·.1)) n) = (f || ((s.e.map (·.1)).drop (k + 1)).any (fun n => inB (s.g.map (·.1)) n)) by rw [drop_at hcl, List.any_cons, hf]))
                      clear hf hcl HK
                      cases f with
                      | true =>
                        go_wp2_with (first | ((with_reducible refine HQ.out.mono ?_); rintro e w3 ⟨rfl, hbr⟩))
                        go_ret
                        exact ⟨ret_int (by rw [← HE.out, ← HB5.out, HK2.out]; rfl), chain HT4.out hbr⟩
                      | false =>
                        go_wp2_with (first | ((with_reducible refine HQ.out.mono ?_); rintro e w3 ⟨rfl, hbr⟩))
                        go_roundw
                        case measure => simp [intOf]; omega
                        case rel => exact ⟨k + 1, by omega, by go_num, Lib.hid (by simpa using HK2.out), hbr⟩
                    · obtain rfl : k = s.e.length := by omega
                      have e5 : b5 = false := by rw [← HB5.out, HK.out, List.drop_eq_nil_of_le (by simp)]; rfl
                      subst e5
                      have hE := HE.out
                      simp only [Bool.false_eq_true, if_false] at hE
                      clear HE HB5 HK
                      have HE := Lib.hid hE
                      clear hE
                      go_wp2_with fail
                      go_loopw [12] (fun vi wr => ∃ k : Nat, k ≤ s.r.length ∧ vi = .int .i64 k ∧ Hid (twF [] s.r = twF (s.r.take k) (s.r.drop k)) ∧ Below W4.heap.size W4 wr) (fun vi _ => s.r.length - (intOf vi).toNat)
                      case atStart => exact ⟨0, by omega, rfl, Lib.hid rfl, hbr⟩
                      case round =>
                        clear hbr hst
                        obtain ⟨k, hk, rfl, HK, hbr⟩ := hrel
                        have HRr := Lib.hid (HR4.out.next hbr)
                        obtain ⟨x0, x1, x2, x3⟩ := HRr.out.bx
                        have hlt := HRr.out.lt
                        by_cases hkl : k < s.r.length
                        · obtain ⟨c, hcl⟩ := some_at hkl
                          have hkl2 : (k : Int) < (s.r.length : Int) := by omega
                          have hlim : k ≤ 1000 := by omega
                          have HCL := Lib.hid hcl
                          have HK2 := Lib.hid (HK.out.trans (show twF (s.r.take k) (s.r.drop k) = ((s.r.take k).any (hit c) || twF (s.r.take (k + 1)) (s.r.drop (k + 1))) by rw [drop_at hcl, take_at2 hcl]; rfl))
                          clear hcl HK
                          go_wp2_with fail
                          go_loopw [13] (fun vi wr => ∃ j : Nat, j ≤ k ∧ vi = .int .i64 j ∧ Hid ((s.r.take k).any (hit c) = ((s.r.take k).drop j).any (hit c)) ∧ Below W4.heap.size W4 wr) (fun vi _ => k - (intOf vi).toNat)
                          case atStart => exact ⟨0, by omega, rfl, Lib.hid rfl, hbr⟩
                          case round =>
                            clear hbr HRr x0 x1 x2 x3 hlt
                            obtain ⟨j, hj, rfl, HJ, hbr⟩ := hrel
                            have HRr := Lib.hid (HR4.out.next hbr)
                            obtain ⟨x0, x1, x2, x3⟩ := HRr.out.bx
                            have hlt := HRr.out.lt
                            by_cases hjk : j < k
                            · obtain ⟨d, hdl⟩ := some_at (l := s.r) (k := j) (by omega)
                              obtain ⟨bb, oo, hao, hs1, hb1, hok, y0, y1, y2, y3, y4, y5, y6, y7, y8⟩ := rec_get HRr.out.ok.r HCL.out
                              obtain ⟨bb', oo', hao', _, _, _, z0, z1, z2, z3, z4, z5, z6, z7, z8⟩ := rec_get HRr.out.ok.r hdl
                              rw [hao] at x3 hao'
                              simp only [Option.some.injEq, Addr.mk.injEq, and_true] at hao'
                              obtain ⟨rfl, rfl⟩ := hao'
                              have hjk2 : (j : Int) < (k : Int) := by omega
                              have hjk3 : (j : Int) < (s.r.length : Int) := by omega
                              have HJ2 := Lib.hid (HJ.out.trans (show ((s.r.take k).drop j).any (hit c) = (hit c d || ((s.r.take k).drop (j + 1)).any (hit c)) by
                                rw [drop_at (c := d) (by rw [List.getElem?_take_of_lt hjk]; exact hdl), List.any_cons]))
                              clear hok hdl HJ hao y0 y1 y2 y3 y5 y6 y7 y8 z0 z1 z2 z3 z5 z6 z7 z8 x0 x1 x2
                              obtain ⟨n, hn⟩ : ∃ n, c.2.2.2.2.1 = n := ⟨_, rfl⟩
                              obtain ⟨m, hm⟩ : ∃ m, d.2.2.2.2.1 = m := ⟨_, rfl⟩
                              rw [hn] at y4
                              rw [hm] at z4
                              have HH := Lib.hid (show hit c d = (decide (0 < n) && decide (n = m)) by unfold hit; rw [hn, hm])
                              clear hn hm
                              by_cases hc0 : (0 : Int) < n
                              · have hd0 : decide ((0 : Int) < n) = true := by simpa using hc0
                                by_cases hcd : n = m
                                · subst hcd
                                  go_wp2_with fail
                                  (refine wp_region_still_lit (by kernel_rfl) (by kernel_rfl) ?_; refine StillH.out ?_; (repeat (refine still_h (fun K hK => ?_); go_simp; refine hK _ ?_; clear hK K)); refine still_end ?_)
                                  go_wp2_with fail
                                  go_ret
                                  exact ⟨ret_int (by rw [← HE.out, ← HB6.out, HK2.out, HJ2.out, HH.out]; simp [hc0]), chain HT4.out hbr.drew⟩
                                · have hh : hit c d = false := by rw [HH.out]; simp [hcd]
                                  have HJ3 := Lib.hid (HJ2.out.trans (by rw [hh]))
                                  clear hh
                                  go_wp2_with fail
                                  (refine wp_region_still_lit (by kernel_rfl) (by kernel_rfl) ?_; refine StillH.out ?_; (repeat (refine still_h (fun K hK => ?_); go_simp; refine hK _ ?_; clear hK K)); refine still_end ?_)
                                  go_wp2_with fail
                                  go_roundw
                                  case measure => simp [intOf]; omega
                                  case rel => exact ⟨j + 1, by omega, by go_num, HJ3, hbr.drew⟩
                              · have hd0 : decide ((0 : Int) < n) = false := by simpa using hc0
                                have hh : hit c d = false := by rw [HH.out, hd0]; rfl
                                have HJ3 := Lib.hid (HJ2.out.trans (by rw [hh]))
                                clear hh
                                go_wp2_with fail
                                (refine wp_region_still_lit (by kernel_rfl) (by kernel_rfl) ?_; refine StillH.out ?_; (repeat (refine still_h (fun K hK => ?_); go_simp; refine hK _ ?_; clear hK K)); refine still_end ?_)
                                go_wp2_with fail
                                go_roundw
                                case measure => simp [intOf]; omega
                                case rel => exact ⟨j + 1, by omega, by go_num, HJ3, hbr.drew⟩
                            · obtain rfl : j = k := by omega
                              have HJ3 := Lib.hid (HK2.out.trans (by rw [HJ.out, List.drop_eq_nil_of_le (by simp; omega)]))
                              go_wp2_with fail
                              go_roundw
                              case measure => simp [intOf]; omega
                              case rel => exact ⟨j + 1, by omega, by go_num, HJ3, hbr⟩
                        · obtain rfl : k = s.r.length := by omega
                          have e6 : b6 = false := by rw [← HB6.out, HK.out, List.drop_eq_nil_of_le (by simp)]; rfl
                          subst e6
                          have hE := HE.out
                          simp only [Bool.false_eq_true, if_false] at hE
                          clear HE HB6 HK
                          have HE := Lib.hid hE
                          clear hE
                          go_wp2_with fail
                          go_loopw [14] (fun vi wr => ∃ k : Nat, k ≤ s.p.length ∧ vi = .int .i64 k ∧ Hid ((s.p.map (·.1)).any (fun n => !inB (s.e.map (·.1)) n && !inB (s.g.map (·.1)) n) = ((s.p.map (·.1)).drop k).any (fun n => !inB (s.e.map (·.1)) n && !inB (s.g.map (·.1)) n)) ∧ Below W4.heap.size W4 wr) (fun vi _ => s.p.length - (intOf vi).toNat)
                          case atStart => exact ⟨0, by omega, rfl, Lib.hid rfl, hbr⟩
                          case round =>
                            clear hbr HRr x0 x1 x2 x3 hlt
                            obtain ⟨k, hk, rfl, HK, hbr⟩ := hrel
                            by_cases hkl : k < s.p.length
                            · obtain ⟨n, hcl⟩ := some_at (l := s.p.map (·.1)) (k := k) (by simpa using hkl)
                              obtain ⟨bb, oo, hao, hs1, hb1, y0, hw⟩ := int_get (HC.out _ hbr) hcl
                              subst hao
                              have hkl2 : (k : Int) < (s.p.length : Int) := by omega
                              have hlim : k ≤ 1000 := by omega
                              have HQ5 := Lib.hid (show ∀ w', Below W4.heap.size W4 w' → Calls Try.prog 30 #[.slice aa s.e.length ca, .int .i64 n] w' (FromPost W4.heap.size W4 (.bool (inB (s.e.map (·.1)) n))) from fun w' h => H5.out w' n h)
                              have HQ6 := Lib.hid (show ∀ w', Below W4.heap.size W4 w' → Calls Try.prog 30 #[.slice ab s.g.length cb, .int .i64 n] w' (FromPost W4.heap.size W4 (.bool (inB (s.g.map (·.1)) n))) from fun w' h => H6.out w' n h)
                              have HY := Lib.hid (show ∀ w', Below W4.heap.size W4 w' → w'.cell? ⟨bb, oo + k, none⟩ = some (.int .i64 n) from fun w' h => by
                                obtain ⟨b2, o2, e2, _, _, y2, _⟩ := int_get (HC.out w' h) hcl
                                simp only [Option.some.injEq, Addr.mk.injEq, and_true] at e2
                                obtain ⟨rfl, rfl⟩ := e2
                                exact y2)
                              obtain ⟨f, hf⟩ : ∃ f, inB (s.e.map (·.1)) n = f := ⟨_, rfl⟩
                              obtain ⟨g, hg⟩ : ∃ g, inB (s.g.map (·.1)) n = g := ⟨_, rfl⟩
                              rw [hf] at HQ5
                              rw [hg] at HQ6
                              have HK2 := Lib.hid (HK.out.trans (show ((s.p.map (·.1)).drop k).any (fun n => !inB (s.e.map (·.1)) n && !inB (s.g.map (·.1)) n) = ((!f && !g) || ((s.p.map (·.1)).drop (k + 1)).any (fun n => !inB (s.e.map (·.1)) n && !inB (s.g.map (·.1)) n)) by rw [drop_at hcl, List.any_cons, hf, hg]))
                              clear hf hg hcl HK
                              cases f with
                              | true =>
                                go_wp2_with (first | ((with_reducible refine (HQ5.out _ hbr).mono ?_); rintro e w3 ⟨rfl, hbr⟩; have y0 := HY.out _ hbr))
                                go_roundw
                                case measure => simp [intOf]; omega
                                case rel => exact ⟨k + 1, by omega, by go_num, Lib.hid (by simpa using HK2.out), hbr⟩
                              | false =>
                                cases g with
                                | true =>
                                  go_wp2_with (first | ((with_reducible refine (HQ5.out _ hbr).mono ?_); rintro e w3 ⟨rfl, hbr⟩; have y0 := HY.out _ hbr) | ((with_reducible refine (HQ6.out _ hbr).mono ?_); rintro e w3 ⟨rfl, hbr⟩))
                                  go_roundw
                                  case measure => simp [intOf]; omega
                                  case rel => exact ⟨k + 1, by omega, by go_num, Lib.hid (by simpa using HK2.out), hbr⟩
                                | false =>
                                  go_wp2_with (first | ((with_reducible refine (HQ5.out _ hbr).mono ?_); rintro e w3 ⟨rfl, hbr⟩; have y0 := HY.out _ hbr) | ((with_reducible refine (HQ6.out _ hbr).mono ?_); rintro e w3 ⟨rfl, hbr⟩))
                                  go_ret
                                  exact ⟨ret_int (by rw [← HE.out, ← HB7.out, HK2.out]; rfl), chain HT4.out hbr⟩
                            · obtain rfl : k = s.p.length := by omega
                              have e7 : b7 = false := by rw [← HB7.out, HK.out, List.drop_eq_nil_of_le (by simp)]; rfl
                              subst e7
                              have hE := HE.out
                              simp only [Bool.false_eq_true, if_false] at hE
                              clear HE HB7 HK
                              have HE := Lib.hid hE
                              clear hE
                              have HRr := Lib.hid (HR4.out.next hbr)
                              obtain ⟨x0, x1, x2, x3⟩ := HRr.out.bx
                              have hlt := HRr.out.lt
                              go_wp2_with fail
                              go_loopw [15] (fun vi wr => ∃ k : Nat, k ≤ s.e.length ∧ vi = .int .i64 k ∧ Hid (s.e.any (fun c => emptyB c.2.2.2) = (s.e.drop k).any (fun c => emptyB c.2.2.2)) ∧ Below W4.heap.size W4 wr) (fun vi _ => s.e.length - (intOf vi).toNat)
                              case atStart => exact ⟨0, by omega, rfl, Lib.hid rfl, hbr⟩
                              case round =>
                                clear hbr HRr x0 x1 x2 x3 hlt
                                obtain ⟨k, hk, rfl, HK, hbr⟩ := hrel
                                have HRr := Lib.hid (HR4.out.next hbr)
                                obtain ⟨x0, x1, x2, x3⟩ := HRr.out.bx
                                have hlt := HRr.out.lt
                                by_cases hkl : k < s.e.length
                                · obtain ⟨c, hcl⟩ := some_at hkl
                                  obtain ⟨bb, oo, hao, hs1, hb1, hok, y0, y1, y2, y3⟩ := ent_get HRr.out.ok.e hcl
                                  rw [hao] at x0
                                  have hkl2 : (k : Int) < (s.e.length : Int) := by omega
                                  have HK2 := Lib.hid (HK.out.trans (show (s.e.drop k).any (fun c => emptyB c.2.2.2) = (emptyB c.2.2.2 || (s.e.drop (k + 1)).any (fun c => emptyB c.2.2.2)) by rw [drop_at hcl, List.any_cons]))
                                  obtain ⟨t, ht⟩ : ∃ t, c.2.2.2 = t := ⟨_, rfl⟩
                                  rw [ht] at y3 HK2
                                  clear ht hcl hok HK hao y0 y1 y2
                                  cases hf : (t.toList == ([] : List UInt8)) with
                                  | true =>
                                    have HF := Lib.hid hf
                                    go_wp2_with fail
                                    go_ret
                                    exact ⟨ret_int (by rw [← HE.out, ← HB8.out, HK2.out, show emptyB t = true from HF.out]; rfl), chain HT4.out hbr⟩
                                  | false =>
                                    have HK3 := Lib.hid (HK2.out.trans (by rw [show emptyB t = false from hf]))
                                    clear HK2
                                    go_wp2_with fail
                                    go_roundw
                                    case measure => simp [intOf]; omega
                                    case rel => exact ⟨k + 1, by omega, by go_num, HK3, hbr⟩
                                · obtain rfl : k = s.e.length := by omega
                                  have e8 : b8 = false := by rw [← HB8.out, HK.out, List.drop_eq_nil_of_le (by simp)]; rfl
                                  subst e8
                                  have hE := HE.out
                                  simp only [Bool.false_eq_true, if_false] at hE
                                  clear HE HB8 HK
                                  have HE := Lib.hid hE
                                  clear hE
                                  go_wp2_with fail
                                  go_loopw [16] (fun vi wr => ∃ k : Nat, k ≤ s.r.length ∧ vi = .int .i64 k ∧ Hid (s.r.any (fun c => c.2.1 != !emptyB c.2.2.2.1) = (s.r.drop k).any (fun c => c.2.1 != !emptyB c.2.2.2.1)) ∧ Below W4.heap.size W4 wr) (fun vi _ => s.r.length - (intOf vi).toNat)
                                  case atStart => exact ⟨0, by omega, rfl, Lib.hid rfl, hbr⟩
                                  case round =>
                                    clear hbr HRr x0 x1 x2 x3 hlt
                                    obtain ⟨k, hk, rfl, HK, hbr⟩ := hrel
                                    have HRr := Lib.hid (HR4.out.next hbr)
                                    obtain ⟨x0, x1, x2, x3⟩ := HRr.out.bx
                                    have hlt := HRr.out.lt
                                    by_cases hkl : k < s.r.length
                                    · obtain ⟨c, hcl⟩ := some_at hkl
                                      obtain ⟨bb, oo, hao, hs1, hb1, hok, y0, y1, y2, y3, y4, y5, y6, y7, y8⟩ := rec_get HRr.out.ok.r hcl
                                      rw [hao] at x3
                                      have hkl2 : (k : Int) < (s.r.length : Int) := by omega
                                      have HK2 := Lib.hid (HK.out.trans (show (s.r.drop k).any (fun c => c.2.1 != !emptyB c.2.2.2.1) = ((c.2.1 != !emptyB c.2.2.2.1) || (s.r.drop (k + 1)).any (fun c => c.2.1 != !emptyB c.2.2.2.1)) by rw [drop_at hcl, List.any_cons]))
                                      obtain ⟨t, ht⟩ : ∃ t, c.2.2.2.1 = t := ⟨_, rfl⟩
                                      obtain ⟨lv, hlv⟩ : ∃ lv, c.2.1 = lv := ⟨_, rfl⟩
                                      rw [ht] at y3 HK2
                                      rw [hlv] at y1 HK2
                                      clear ht hlv hcl hok HK hao y0 y2 y4 y5 y6 y7 y8
                                      obtain ⟨f, hf⟩ : ∃ f, (t.toList == ([] : List UInt8)) = f := ⟨_, rfl⟩
                                      rw [show emptyB t = f from hf] at HK2
                                      cases f with
                                      | true =>
                                        cases lv with
                                        | true =>
                                          go_wp2_with fail
                                          (refine wp_region_still_lit (by kernel_rfl) (by kernel_rfl) ?_; refine StillH.out ?_; (repeat (refine still_h (fun K hK => ?_); go_simp; refine hK _ ?_; clear hK K)); refine still_end ?_)
                                          go_wp2_with fail
                                          go_ret
                                          exact ⟨ret_int (by rw [← HE.out, ← HB9.out, HK2.out]; rfl), chain HT4.out hbr.drew⟩
                                        | false =>
                                          go_wp2_with fail
                                          (refine wp_region_still_lit (by kernel_rfl) (by kernel_rfl) ?_; refine StillH.out ?_; (repeat (refine still_h (fun K hK => ?_); go_simp; refine hK _ ?_; clear hK K)); refine still_end ?_)
                                          go_wp2_with fail
                                          go_roundw
                                          case measure => simp [intOf]; omega
                                          case rel => exact ⟨k + 1, by omega, by go_num, HK2, hbr.drew⟩
                                      | false =>
                                        cases lv with
                                        | false =>
                                          go_wp2_with fail
                                          (refine wp_region_still_lit (by kernel_rfl) (by kernel_rfl) ?_; refine StillH.out ?_; (repeat (refine still_h (fun K hK => ?_); go_simp; refine hK _ ?_; clear hK K)); refine still_end ?_)
                                          go_wp2_with fail
                                          go_ret
                                          exact ⟨ret_int (by rw [← HE.out, ← HB9.out, HK2.out]; rfl), chain HT4.out hbr.drew⟩
                                        | true =>
                                          go_wp2_with fail
                                          (refine wp_region_still_lit (by kernel_rfl) (by kernel_rfl) ?_; refine StillH.out ?_; (repeat (refine still_h (fun K hK => ?_); go_simp; refine hK _ ?_; clear hK K)); refine still_end ?_)
                                          go_wp2_with fail
                                          go_roundw
                                          case measure => simp [intOf]; omega
                                          case rel => exact ⟨k + 1, by omega, by go_num, HK2, hbr.drew⟩
                                    · obtain rfl : k = s.r.length := by omega
                                      have e9 : b9 = false := by rw [← HB9.out, HK.out, List.drop_eq_nil_of_le (by simp)]; rfl
                                      subst e9
                                      go_wp2_with fail
                                      go_ret
                                      exact ⟨ret_int (by rw [← HE.out]; rfl), chain HT4.out hbr⟩
end Go.Proofs.Ytdkndcmjcmeddaa
