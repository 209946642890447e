/- Cards: their parts read; how deep they are, the program's and the document's. -/
import Derived.Test.YtcfbmfcobpfcjaaDoorVcDefs
import Derived.Test.YtcfbmfcobpfcjaaDoorStrs
namespace Go.Proofs.YtcfbmfcobpfcjaaDoor
open Go.RowKit Lift
set_option linter.unusedSimpArgs false
set_option linter.unusedVariables false

/-- A card's slice of properties. -/
theorem card_inv {d : Nat} {S : Nat → Prop} {w : World} {cs : List Value} {c : Crd} (h : (rCrd d).rel S w cs c) :
    ∃ d' ao cap, d = d' + 1 ∧ cs = [.slice ao c.props.length cap] ∧ c.props.length ≤ cap ∧ cap ≤ maxLen ∧ (ao = none → cap = 0) ∧ SlAt (rPropC (rCrd d')) S w ao c.props := by
  cases d with
  | zero => exact h.elim
  | succ d' =>
    obtain ⟨ps, ⟨ao, cap, h1, h2, h3, h4, h5⟩, e⟩ := h
    subst e
    exact ⟨d', ao, cap, rfl, h1, h2, h3, h4, h5⟩
/-- A property's cells. -/
theorem prop_get {d : Nat} {S : Nat → Prop} {w : World} {ao : Option Addr} {l : List CProp} (h : SlAt (rPropC (rCrd d)) S w ao l) {k : Nat} {p : CProp} (hk : l[k]? = some p) :
    ∃ b off pa pc aa ac, ao = some ⟨b, off, none⟩ ∧ S b ∧ b < w.heap.size ∧ p.1.size ≤ maxTx ∧ p.2.1.size ≤ maxTx ∧ p.2.2.2.1.size ≤ maxTx ∧
      (p.2.2.1.length ≤ pc ∧ pc ≤ maxLen ∧ (pa = none → pc = 0) ∧ SlAt rPar S w pa p.2.2.1) ∧ (p.2.2.2.2.length ≤ ac ∧ ac ≤ maxLen ∧ (aa = none → ac = 0) ∧ SlAt (rCrd d) S w aa p.2.2.2.2) ∧
      w.cell? ⟨b, off + k * 5, none⟩ = some (.string p.1) ∧ w.cell? ⟨b, off + k * 5 + 1, none⟩ = some (.string p.2.1) ∧ w.cell? ⟨b, off + k * 5 + 2, none⟩ = some (.slice pa p.2.2.1.length pc) ∧ w.cell? ⟨b, off + k * 5 + 3, none⟩ = some (.string p.2.2.2.1) ∧ w.cell? ⟨b, off + k * 5 + 4, none⟩ = some (.slice aa p.2.2.2.2.length ac) := by
  obtain ⟨b, off, cs, rfl, hs, hlt, hr, hc⟩ := h.get hk
  rw [rPropC_n] at hc
  obtain ⟨c1, c2, rfl, ⟨rfl, h1⟩, c3, c4, rfl, ⟨rfl, h2⟩, c5, c6, rfl, ⟨pa, pc, rfl, g1, g2, g3, g4⟩, c7, c8, rfl, ⟨rfl, h3⟩, aa, ac, rfl, i1, i2, i3, i4⟩ := hr
  exact ⟨b, off, pa, pc, aa, ac, rfl, hs, hlt, h1, h2, h3, ⟨g1, g2, g3, g4⟩, ⟨i1, i2, i3, i4⟩, hc 0 _ rfl, hc 1 _ rfl, hc 2 _ rfl, hc 3 _ rfl, hc 4 _ rfl⟩
/-- A card in a slice of cards. -/
theorem crd_get {d : Nat} {S : Nat → Prop} {w : World} {ao : Option Addr} {l : List Crd} (h : SlAt (rCrd d) S w ao l) {k : Nat} {c : Crd} (hk : l[k]? = some c) :
    ∃ b off v, ao = some ⟨b, off, none⟩ ∧ S b ∧ b < w.heap.size ∧ (rCrd d).rel S w [v] c ∧ w.cell? ⟨b, off + k, none⟩ = some v ∧ v.oneCell' = true := by
  obtain ⟨b, off, cs, rfl, hs, hlt, hr, hc⟩ := h.get hk
  rw [rCrd_n, Nat.mul_one] at hc
  obtain ⟨d', ao, cap, rfl, rfl, _⟩ := card_inv hr
  exact ⟨b, off, _, rfl, hs, hlt, hr, by have := hc 0 _ rfl; simpa using this, rfl⟩
/-- How deep a card is, but for what is deeper than so many. -/
def deepN : Nat → Crd → Nat
  | 0, _ => 1
  | m + 1, c => c.props.foldl (fun n p => p.2.2.2.2.foldl (fun n a => max n (1 + deepN m a)) n) 1
def deepA (m : Nat) (n : Nat) (l : List Crd) : Nat := l.foldl (fun n a => max n (1 + deepN m a)) n
def deepP (m : Nat) (n : Nat) (l : List CProp) : Nat := l.foldl (fun n p => deepA m n p.2.2.2.2) n
theorem deepN_succ (m : Nat) (c : Crd) : deepN (m + 1) c = deepP m 1 c.props := by simp [deepN, deepP, deepA]
theorem deepA_snoc {m n : Nat} {l : List Crd} {k : Nat} {c : Crd} (h : l[k]? = some c) : deepA m n (l.take (k + 1)) = max (deepA m n (l.take k)) (1 + deepN m c) := by
  unfold deepA; rw [take_at2 h, List.foldl_append]; rfl
theorem deepP_snoc {m n : Nat} {l : List CProp} {k : Nat} {p : CProp} (h : l[k]? = some p) : deepP m n (l.take (k + 1)) = deepA m (deepP m n (l.take k)) p.2.2.2.2 := by
  unfold deepP; rw [take_at2 h, List.foldl_append]; rfl
theorem deepA_le {m B : Nat} (hB : ∀ c, 1 + deepN m c ≤ B) : ∀ (l : List Crd) (n : Nat), n ≤ B → deepA m n l ≤ B
  | [], n, h => h
  | c :: r, n, h => by
    show deepA m (max n (1 + deepN m c)) r ≤ B
    exact deepA_le hB r _ (by have := hB c; omega)
theorem deepP_le {m B : Nat} (hB : ∀ c, 1 + deepN m c ≤ B) : ∀ (l : List CProp) (n : Nat), n ≤ B → deepP m n l ≤ B
  | [], n, h => h
  | p :: r, n, h => by
    show deepP m (deepA m n p.2.2.2.2) r ≤ B
    exact deepP_le hB r _ (deepA_le hB _ _ h)
theorem deepN_le : ∀ (m : Nat) (c : Crd), deepN m c ≤ m + 1
  | 0, _ => Nat.le_refl _
  | m + 1, c => by
    rw [deepN_succ]
    exact deepP_le (fun a => by have := deepN_le m a; omega) _ _ (by omega)
theorem max_step (n x : Nat) (h : x ≤ 100) : (if (n : Int) < wrap64 (1 + (x : Int)) then wrap64 (1 + (x : Int)) else (n : Int)) = ((max n (1 + x) : Nat) : Int) := by
  rw [IntWalk.wrap64_in _ (by omega)]; split <;> omega
set_option maxHeartbeats 4000000 in
set_option maxRecDepth 100000 in
theorem deep_any : ∀ (m : Nat), m ≤ 8 → ∀ (d : Nat) (c : Crd) (cs : Array Value) (w : World), (rCrd d).rel (· < w.heap.size) w cs.toList c →
    Calls Tryd.prog 16 #[.agg cs, .int .i64 ((m + 1 : Nat) : Int)] w (BelowPost (.int .i64 (deepN m c)) w)
  | 0, hm, d, c, cs, w, h => by
    obtain ⟨d', ao, cap, rfl, h1, h2, h3, h4, h5⟩ := card_inv h
    obtain rfl : cs = #[.slice ao c.props.length cap] := Array.toList_inj.1 (by rw [h1])
    clear h
    go_enter Tryd.func16, Tryd.ntmps16
    go_wp2_with fail
    go_ret
    exact ⟨rfl, (Below.refl _ w).alloc (Nat.le_refl _) _⟩
  | m + 1, hm, d, c, cs, w, h => by
    have ih := deep_any m (by omega)
    have HIH := Lib.hid ih
    clear ih
    obtain ⟨d', ao, cap, rfl, h1, h2, h3, h4, h5⟩ := card_inv h
    obtain rfl : cs = #[.slice ao c.props.length cap] := Array.toList_inj.1 (by rw [h1])
    clear h h1
    obtain ⟨M, hM⟩ : ∃ M : Nat, m + 1 + 1 = M := ⟨_, rfl⟩
    obtain ⟨M1, hM1⟩ : ∃ M : Nat, m + 1 = M := ⟨_, rfl⟩
    rw [hM]
    rw [hM1] at HIH
    have hne : ((M : Int) == 1) = false := by simp; omega
    have hsub : IntKind.i64.wrap ((M : Int) - 1) = (M1 : Int) := by rw [IntWalk.i64_in _ (by omega)]; omega
    have HDL := Lib.hid (fun c : Crd => show 1 + deepN m c ≤ 10 by have := deepN_le m c; omega)
    clear hM hM1 hm
    unfold maxLen at h3
    have hplen : c.props.length ≤ 9223372036854775807 := by omega
    obtain ⟨ps, hps⟩ : ∃ ps, c.props = ps := ⟨_, rfl⟩
    rw [deepN_succ, hps]
    rw [hps] at h2 h5 hplen
    have HPL := Lib.hid hplen
    clear hps h2 h3 h4 hplen
    go_enter Tryd.func16, Tryd.ntmps16
    go_wp2_with fail
    go_loopw [5, 16] (fun v5 v16 wr => ∃ k : Nat, k ≤ ps.length ∧ v16 = .int .i64 k ∧ v5 = .int .i64 (deepP m 1 (ps.take k)) ∧ Below w.heap.size w wr) (fun _ v16 _ => ps.length - (intOf v16).toNat)
    case atStart => exact ⟨0, Nat.zero_le _, rfl, rfl, (Below.refl _ w).alloc (Nat.le_refl _) _⟩
    case round =>
      obtain ⟨k, hk, rfl, rfl, hb⟩ := hrel
      by_cases hkl : k < ps.length
      · have hkl2 : (k : Int) < (ps.length : Int) := by omega
        obtain ⟨p, hp⟩ := some_at hkl
        obtain ⟨b, off, pa, pc, aa, ac, rfl, hS, hlt, s1, s2, s3, _, ⟨i1, i2, i3, i4⟩, k0, k1, k2, k3, k4⟩ := prop_get (h5.old hb) hp
        have hB : w.heap.size ≤ wr.heap.size := hb.size
        have HPK := Lib.hid (deepP_snoc (m := m) (n := 1) hp)
        have HN := Lib.hid (deepP_le HDL.out (ps.take k) 1 (by have := HDL.out (.mk []); omega))
        obtain ⟨n0, hn0⟩ : ∃ n0, deepP m 1 (ps.take k) = n0 := ⟨_, rfl⟩
        rw [hn0] at HPK HN ⊢
        obtain ⟨gs, has⟩ : ∃ gs, p.2.2.2.2 = gs := ⟨_, rfl⟩
        rw [has] at i1 i4 k4 HPK
        unfold maxLen at i2
        have HAL := Lib.hid (show gs.length ≤ 9223372036854775807 by omega)
        have HB := Lib.hid hb
        clear i1 i2 i3 has hn0 hp s1 s2 s3
        obtain ⟨wo, rfl⟩ : ∃ x : World, x = wr := ⟨_, rfl⟩
        go_wp2_with fail
        go_loopw [5, 23] (fun v5 v23 wq => ∃ j : Nat, j ≤ gs.length ∧ v23 = .int .i64 j ∧ v5 = .int .i64 (deepA m n0 (gs.take j)) ∧ Below w.heap.size w wq ∧ Below wo.heap.size wo wq) (fun _ v23 _ => gs.length - (intOf v23).toNat)
        case atStart => exact ⟨0, Nat.zero_le _, rfl, rfl, hb.alloc hB _, (Below.refl _ wo).alloc (Nat.le_refl _) _⟩
        case round =>
          obtain ⟨j, hj, rfl, rfl, hb2, hb3⟩ := hrel
          by_cases hjl : j < gs.length
          · have hjl2 : (j : Int) < (gs.length : Int) := by omega
            obtain ⟨a, ha⟩ := some_at hjl
            obtain ⟨b2, off2, v, rfl, hS2, hlt2, hr, hcv, hv1⟩ := crd_get (i4.old (hb3.mono hB)) ha
            obtain ⟨d2, ao2, cap2, rfl, hve, _, _, _, _⟩ := card_inv hr
            obtain rfl : v = .slice ao2 a.props.length cap2 := by simpa using hve
            have hbq : Below wr.heap.size wr (wr.alloc (.cells #[.slice ao2 a.props.length cap2] 24)) := (Below.refl _ _).alloc (Nat.le_refl _) _
            have hC := HIH.out _ a #[.slice ao2 a.props.length cap2] (wr.alloc (.cells #[.slice ao2 a.props.length cap2] 24)) ((rCrd _).mono _ _ _ _ _ ((rCrd _).below hr hbq) (fun b h1 h2 => h2))
            have HC := Lib.hid hC
            have HAK := Lib.hid (deepA_snoc (m := m) (n := n0) ha)
            have HNA := Lib.hid (deepA_le HDL.out (gs.take j) n0 HN.out)
            have HNC := Lib.hid (HDL.out a)
            obtain ⟨n1, hn1⟩ : ∃ n1, deepA m n0 (gs.take j) = n1 := ⟨_, rfl⟩
            obtain ⟨x, hx⟩ : ∃ x, deepN m a = x := ⟨_, rfl⟩
            rw [hn1] at HAK HNA ⊢
            rw [hx] at HAK HC HNC
            clear hC hr hn1 hx hve
            go_wp2_with fail
            refine HC.out.mono ?_
            rintro e w6 ⟨rfl, hb6⟩
            have hnc := HNC.out
            have HMX := Lib.hid (max_step n1 x (by omega))
            have hal := HAL.out
            clear hnc
            have hbw : Below w.heap.size w w6 := hb2.trans ((hbq.trans (hb6.mono hbq.size)).mono hb2.size)
            have hbo : Below wo.heap.size wo w6 := hb3.trans ((hbq.trans (hb6.mono hbq.size)).mono hb3.size)
            clear hbq hb6
            go_wp2_with fail
            go_roundw
            case measure => simp [intOf]; omega
            case rel => exact ⟨j + 1, by omega, by go_num, by rw [HAK.out, ← HMX.out], hbw, hbo⟩
          · obtain rfl : j = gs.length := by omega
            have hpl := HPL.out
            go_wp2_with fail
            go_roundw
            case measure => simp [intOf]; omega
            case rel => exact ⟨k + 1, by omega, by go_num, by rw [HPK.out, List.take_length], hb2⟩
      · obtain rfl : k = ps.length := by omega
        go_wp2_with fail
        go_ret
        exact ⟨by rw [List.take_length]; rfl, hb⟩
set_option maxHeartbeats 4000000 in
set_option maxRecDepth 100000 in
theorem deep_ref : ∀ (m : Nat), m ≤ 8 → ∀ (d : Nat) (c : Crd) (cs : Array Value) (w : World), (rCrd d).rel (· < w.heap.size) w cs.toList c →
    Calls Tryd.prog 17 #[.agg cs, .int .i64 ((m + 1 : Nat) : Int)] w (BelowPost (.int .i64 (deepN m c)) w)
  | 0, hm, d, c, cs, w, h => by
    obtain ⟨d', ao, cap, rfl, h1, h2, h3, h4, h5⟩ := card_inv h
    obtain rfl : cs = #[.slice ao c.props.length cap] := Array.toList_inj.1 (by rw [h1])
    clear h
    have hb0 : Below w.heap.size w (w.alloc (.cells #[.slice ao c.props.length cap] 24)) := (Below.refl _ w).alloc (Nat.le_refl _) _
    by_cases h0 : c.props.length = 0
    · have h1 : ¬ (0 : Int) < (c.props.length : Int) := by omega
      clear h0
      go_enter Tryd.func17, Tryd.ntmps17
      go_wp2_with fail
      refine wp_loop_rounds 1 ?_
      rw [rounds_succ]
      go_wp2_with fail
      go_ret
      exact ⟨rfl, hb0⟩
    · have h1 : (0 : Int) < (c.props.length : Int) := by omega
      go_enter Tryd.func17, Tryd.ntmps17
      go_wp2_with fail
      refine wp_loop_rounds 1 ?_
      rw [rounds_succ]
      go_wp2_with fail
      go_ret
      exact ⟨rfl, hb0⟩
  | m + 1, hm, d, c, cs, w, h => by
    have ih := deep_ref m (by omega)
    have HIH := Lib.hid ih
    clear ih
    obtain ⟨d', ao, cap, rfl, h1, h2, h3, h4, h5⟩ := card_inv h
    obtain rfl : cs = #[.slice ao c.props.length cap] := Array.toList_inj.1 (by rw [h1])
    clear h h1
    obtain ⟨M, hM⟩ : ∃ M : Nat, m + 1 + 1 = M := ⟨_, rfl⟩
    obtain ⟨M1, hM1⟩ : ∃ M : Nat, m + 1 = M := ⟨_, rfl⟩
    rw [hM]
    rw [hM1] at HIH
    have hgt : (1 : Int) < (M : Int) := by omega
    have hsub : IntKind.i64.wrap ((M : Int) - 1) = (M1 : Int) := by rw [IntWalk.i64_in _ (by omega)]; omega
    have HDL := Lib.hid (fun c : Crd => show 1 + deepN m c ≤ 10 by have := deepN_le m c; omega)
    clear hM hM1 hm
    unfold maxLen at h3
    have hplen : c.props.length ≤ 9223372036854775807 := by omega
    obtain ⟨ps, hps⟩ : ∃ ps, c.props = ps := ⟨_, rfl⟩
    rw [deepN_succ, hps]
    rw [hps] at h2 h5 hplen
    have HPL := Lib.hid hplen
    clear hps h2 h3 h4 hplen
    go_enter Tryd.func17, Tryd.ntmps17
    go_wp2_with fail
    go_loopw [5, 6, 7] (fun v5 v6 _ wr => ∃ k : Nat, k ≤ ps.length ∧ v6 = .int .i64 k ∧ v5 = .int .i64 (deepP m 1 (ps.take k)) ∧ Below w.heap.size w wr ∧ w.heap.size < wr.heap.size ∧ wr.cell? ⟨w.heap.size, 0, none⟩ = some (.slice ao ps.length cap)) (fun _ v6 _ _ => ps.length - (intOf v6).toNat)
    case atStart => exact ⟨0, Nat.zero_le _, rfl, rfl, (Below.refl _ w).alloc (Nat.le_refl _) _, by simp, by simp [go_sem]⟩
    case round =>
      obtain ⟨k, hk, rfl, rfl, hb, hz, hc0⟩ := hrel
      by_cases hkl : k < ps.length
      · have hkl2 : (k : Int) < (ps.length : Int) := by omega
        obtain ⟨p, hp⟩ := some_at hkl
        obtain ⟨b, off, pa, pc, aa, ac, rfl, hS, hlt, s1, s2, s3, _, ⟨i1, i2, i3, i4⟩, k0, k1, k2, k3, k4⟩ := prop_get (h5.old hb) hp
        have hB : w.heap.size ≤ wr.heap.size := hb.size
        have HPK := Lib.hid (deepP_snoc (m := m) (n := 1) hp)
        have HN := Lib.hid (deepP_le HDL.out (ps.take k) 1 (by have := HDL.out (.mk []); omega))
        obtain ⟨n0, hn0⟩ : ∃ n0, deepP m 1 (ps.take k) = n0 := ⟨_, rfl⟩
        rw [hn0] at HPK HN ⊢
        obtain ⟨gs, has⟩ : ∃ gs, p.2.2.2.2 = gs := ⟨_, rfl⟩
        rw [has] at i1 i4 k4 HPK
        unfold maxLen at i2
        have HAL := Lib.hid (show gs.length ≤ 9223372036854775807 by omega)
        clear i1 i2 i3 has hn0 hp s1 s2 s3 k0 k1 k2 k3
        have hkp : k ≤ 9223372036854775807 := by have := HPL.out; omega
        obtain ⟨wo, rfl⟩ : ∃ x : World, x = wr := ⟨_, rfl⟩
        have HK4 := Lib.hid k4
        have HC0 := Lib.hid hc0
        clear k4
        go_wp2_with fail
        clear hc0
        go_loopw [5, 7] (fun v5 v7 wr => ∃ j : Nat, j ≤ gs.length ∧ v7 = .int .i64 j ∧ v5 = .int .i64 (deepA m n0 (gs.take j)) ∧ Below wo.heap.size wo wr) (fun _ v7 _ => gs.length - (intOf v7).toNat)
        case atStart => exact ⟨0, Nat.zero_le _, rfl, rfl, Below.refl _ wo⟩
        case round =>
          obtain ⟨j, hj, rfl, rfl, hb3⟩ := hrel
          have k4 := (hb3.cell (p := ⟨b, off + k * 5 + 4, none⟩) hlt).trans HK4.out
          have c0 := (hb3.cell (p := ⟨w.heap.size, 0, none⟩) hz).trans HC0.out
          by_cases hjl : j < gs.length
          · have hjl2 : (j : Int) < (gs.length : Int) := by omega
            obtain ⟨a, ha⟩ := some_at hjl
            obtain ⟨b2, off2, v, rfl, hS2, hlt2, hr, hcv, hv1⟩ := crd_get (i4.old (hb3.mono hB)) ha
            obtain ⟨d2, ao2, cap2, rfl, hve, _, _, _, _⟩ := card_inv hr
            obtain rfl : v = .slice ao2 a.props.length cap2 := by simpa using hve
            have hC := HIH.out _ a #[.slice ao2 a.props.length cap2] wr ((rCrd _).mono _ _ _ _ _ hr (fun b h1 h2 => h2))
            have HC := Lib.hid hC
            have HAK := Lib.hid (deepA_snoc (m := m) (n := n0) ha)
            have HNA := Lib.hid (deepA_le HDL.out (gs.take j) n0 HN.out)
            have HNC := Lib.hid (HDL.out a)
            obtain ⟨n1, hn1⟩ : ∃ n1, deepA m n0 (gs.take j) = n1 := ⟨_, rfl⟩
            obtain ⟨x, hx⟩ : ∃ x, deepN m a = x := ⟨_, rfl⟩
            rw [hn1] at HAK HNA ⊢
            rw [hx] at HAK HC HNC
            clear hC hr hn1 hx hve
            go_wp2_with fail
            refine HC.out.mono ?_
            rintro e w6 ⟨rfl, hb6⟩
            have hnc := HNC.out
            have HMX := Lib.hid (max_step n1 x (by omega))
            have hal := HAL.out
            clear hnc
            have hbo : Below wo.heap.size wo w6 := hb3.trans (hb6.mono hb3.size)
            clear hb6
            go_wp2_with fail
            go_roundw
            case measure => simp [intOf]; omega
            case rel => exact ⟨j + 1, by omega, by go_num, by rw [HAK.out, ← HMX.out], hbo⟩
          · obtain rfl : j = gs.length := by omega
            have hpl := HPL.out
            have hbw : Below w.heap.size w wr := hb.trans (hb3.mono hB)
            have hzw : w.heap.size < wr.heap.size := by have := hb3.size; omega
            go_wp2_with fail
            go_roundw
            case measure => simp [intOf]; omega
            case rel => exact ⟨k + 1, by omega, by go_num, by rw [HPK.out, List.take_length], hbw, hzw, c0⟩
      · obtain rfl : k = ps.length := by omega
        go_wp2_with fail
        go_ret
        exact ⟨by rw [List.take_length]; rfl, hb⟩
theorem Deep_any (d : Nat) (c : Crd) (cs : Array Value) (w : World) (h : (rCrd d).rel (· < w.heap.size) w cs.toList c) : Calls Tryd.prog 8 #[.agg cs] w (BelowPost (.int .i64 (deepN 8 c)) w) := by
  obtain ⟨d', ao, cap, rfl, h1, h2, h3, h4, h5⟩ := card_inv h
  obtain rfl : cs = #[.slice ao c.props.length cap] := Array.toList_inj.1 (by rw [h1])
  have hb0 : Below w.heap.size w (w.alloc (.cells #[.slice ao c.props.length cap] 24)) := (Below.refl _ w).alloc (Nat.le_refl _) _
  have HC := Lib.hid (deep_any 8 (Nat.le_refl _) _ c #[.slice ao c.props.length cap] (w.alloc (.cells #[.slice ao c.props.length cap] 24)) ((rCrd _).mono _ _ _ _ _ ((rCrd _).below h hb0) (fun b h1 h2 => h2)))
  clear h h1
  go_enter Tryd.func8, Tryd.ntmps8
  go_wp2_with fail
  refine HC.out.mono ?_
  rintro e w2 ⟨rfl, hb2⟩
  go_wp2_with fail
  go_ret
  exact ⟨rfl, chain hb0 hb2⟩
theorem Deep_ref (d : Nat) (c : Crd) (cs : Array Value) (w : World) (h : (rCrd d).rel (· < w.heap.size) w cs.toList c) : Calls Tryd.prog 9 #[.agg cs] w (BelowPost (.int .i64 (deepN 8 c)) w) := by
  obtain ⟨d', ao, cap, rfl, h1, h2, h3, h4, h5⟩ := card_inv h
  obtain rfl : cs = #[.slice ao c.props.length cap] := Array.toList_inj.1 (by rw [h1])
  have hb0 : Below w.heap.size w (w.alloc (.cells #[.slice ao c.props.length cap] 24)) := (Below.refl _ w).alloc (Nat.le_refl _) _
  have HC := Lib.hid (deep_ref 8 (Nat.le_refl _) _ c #[.slice ao c.props.length cap] (w.alloc (.cells #[.slice ao c.props.length cap] 24)) ((rCrd _).mono _ _ _ _ _ ((rCrd _).below h hb0) (fun b h1 h2 => h2)))
  clear h h1
  go_enter Tryd.func9, Tryd.ntmps9
  go_wp2_with fail
  refine HC.out.mono ?_
  rintro e w2 ⟨rfl, hb2⟩
  go_wp2_with fail
  go_ret
  exact ⟨rfl, chain hb0 hb2⟩
end Go.Proofs.YtcfbmfcobpfcjaaDoor
