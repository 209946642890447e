/- A card's lines: the document's. -/
import Derived.Test.YtcfbmfcobpfcjaaDoorVcApp
import Derived.Test.YtcfbmfcobpfcjaaDoorVcLet
import Derived.Deep.CutBlock
import Derived.Deep.CutRange
import Derived.IntWalk
namespace Go.Proofs.YtcfbmfcobpfcjaaDoor
open Go.RowKit Lift Go.Shelf
set_option linter.unusedSimpArgs false
set_option linter.unusedVariables false

theorem firstE_all {α : Type} (f : α → Int) : ∀ (l : List α), firstE (l.map f) = 0 → ∀ x ∈ l, f x = 0
  | [], _, x, hx => by cases hx
  | a :: t, h, x, hx => by
    rw [List.map_cons, firstE] at h
    split at h
    · rename_i ha
      rcases List.mem_cons.1 hx with rfl | hx
      · exact ha
      · exact firstE_all f t h x hx
    · rename_i ha; exact absurd h ha
theorem errP_zero {d : Nat} {p : CProp} (h : errP d p = 0) : chkQ p = 0 ∧ ∀ a ∈ p.2.2.2.2, chkN d a = 0 := by
  unfold errP at h
  split at h
  · rename_i hq
    exact ⟨hq, firstE_all _ _ h⟩
  · rename_i hq; exact absurd h hq
theorem own_two (W : World) (base : Nat) (a b : ByteArray) (ha : a.size ≤ maxTx) (hb : b.size ≤ maxTx) (t : TypeId) (hbase : base ≤ W.heap.size) : Lift.Own Rd.str (fun _ => True) (W.alloc (.cells #[.string a, .string b] t)) base t (.slice (some ⟨W.heap.size, 0, none⟩) 2 2) [a, b] := by
  refine ⟨[.string a, .string b], ?_, ?_⟩
  · refine ⟨by rfl, .inr ⟨W.heap.size, 2, #[.string a, .string b], rfl, hbase, heap_alloc_new _ _, ?_, ?_, ?_, ?_⟩⟩
    all_goals first | rfl | (simp [maxLen, Rd.str]; done) | simp [maxLen, Rd.str]
  · have h1 := (RowsOf.nil Rd.str (fun x => True ∧ some x ≠ (Value.slice (some ⟨W.heap.size, 0, none⟩) 2 2).ownBlock) (W.alloc (.cells #[.string a, .string b] t))).snoc (cs := [.string a]) (c := a) ⟨rfl, ha⟩
    have h2 := h1.snoc (cs := [.string b]) (c := b) ⟨rfl, hb⟩
    simpa using h2
theorem two_pars (W : World) (S : Nat → Prop) (a b : Par) (ha : okPar a) (hb : okPar b) (t : TypeId) (g : Nat) (hg : g = W.heap.size) (hS : S g) : SlAt rPar S (W.alloc (.cells #[.string a.1, .string a.2, .string b.1, .string b.2] t)) (some ⟨g, 0, none⟩) [a, b] := by
  subst hg
  refine SlAt.of_cells (xs := [.string a.1, .string a.2, .string b.1, .string b.2]) hS (by simp) ?_ ?_
  · intro i v hi
    rw [Nat.zero_add, Lib.cell_of_heap (heap_alloc_new W _) i]
    simpa using hi
  · have h1 := (RowsOf.nil rPar S (W.alloc (.cells #[.string a.1, .string a.2, .string b.1, .string b.2] t))).snoc (par_rel _ _ a ha)
    have h2 := h1.snoc (par_rel _ _ b hb)
    simpa [cellsPar] using h2
set_option maxHeartbeats 8000000 in
set_option maxRecDepth 100000 in
theorem dlines_any : ∀ (d k m : Nat) (c : Crd) (cs : Array Value) (w : World), Shal k c → k ≤ 3 → FineC m c → chkN d c = 0 → (rCrd d).rel (· < w.heap.size) w cs.toList c →
    Calls Tryd.prog 15 #[.agg cs] w (RowPost Rd.str 9 (linesP d c) w)
  | 0, k, m, c, cs, w, hs, hk, hf, h0, h => h.elim
  | d + 1, k, m, c, cs, w, hs, hk, hf, h0, h => by
    have ih := dlines_any d
    have HIH := Lib.hid ih
    clear ih
    obtain ⟨d', ao, cap, hd', h1, h2, h3, h4, h5⟩ := card_inv h
    obtain rfl : d = d' := by omega
    obtain rfl : cs = #[.slice ao c.props.length cap] := Array.toList_inj.1 (by rw [h1])
    clear h hd' h1
    obtain ⟨k', rfl⟩ := hs.pos
    obtain ⟨m', rfl⟩ : ∃ m', m = m' + 1 := by
      cases m with
      | zero => exact hf.elim
      | succ m' => exact ⟨m', rfl⟩
    obtain ⟨i0, hi, hz0, hz1, hz2⟩ := str_info0
    have HI := Lib.hid hi; have HZ0 := Lib.hid hz0; have HZ1 := Lib.hid hz1; have HZ2 := Lib.hid hz2
    obtain ⟨p0, pi, pz0, pz1, pz2⟩ := par_info0
    have PI := Lib.hid pi; have PZ0 := Lib.hid pz0; have PZ1 := Lib.hid pz1; have PZ2 := Lib.hid pz2
    clear hi hz0 hz1 hz2 pi pz0 pz1 pz2
    rw [chkN_succ] at h0
    split at h0
    · cases h0
    rename_i h24
    obtain ⟨ps, hps⟩ : ∃ ps, c.props = ps := ⟨_, rfl⟩
    have HFine := Lib.hid (show ∀ p ∈ ps, FineP m' p from fun p hp => hf.2 p (by rw [hps]; exact hp))
    have HSub := Lib.hid (show ∀ p ∈ ps, ∀ a ∈ p.2.2.2.2, Shal k' a from fun p hp a ha => hs.sub (by rw [hps]; exact hp) ha)
    have HZ := Lib.hid (show ∀ p ∈ ps, chkQ p = 0 ∧ ∀ a ∈ p.2.2.2.2, chkN d a = 0 from fun p hp => errP_zero (firstE_all (errP d) ps (by rw [← hps]; exact h0) p hp))
    have HBnd := Lib.hid (show ∀ i, (i < ps.length → ((ps.take i).flatMap (pieceP d)).length ≤ 23 * (2901 + bud k')) ∧ ((ps.take i).flatMap (pieceP d)).length ≤ 24 * (2901 + bud k') from fun i => by
      have h00 : firstE ((ps.take i).map (errP d)) = 0 := by
        have h := h0
        rw [hps, ← List.take_append_drop i ps, List.map_append, firstE_app] at h
        split at h
        · rename_i e; exact e
        · exact h
      have h1 := (props_bound hs (ps.take i) (fun p hp => by rw [hps]; exact List.mem_of_mem_take hp) h00).1
      have h2 : (ps.take i).length ≤ 24 := by rw [List.length_take, ← hps]; omega
      refine ⟨fun hi => Nat.le_trans h1 (Nat.mul_le_mul_right _ ?_), Nat.le_trans h1 (Nat.mul_le_mul_right _ h2)⟩
      rw [List.length_take]; rw [hps] at h24; omega)
    have HLn := Lib.hid (show linesP (d + 1) c = [kBegin, kVersion] ++ ps.flatMap (pieceP d) ++ [kEndC] by rw [linesP_succ, hps])
    have HBd := Lib.hid (show bud k' ≤ 43500000 from bud_mono (by omega))
    have Hk := Lib.hid hk
    rw [hps] at h5 h24 h2
    rw [hps]
    have HH5 := Lib.hid h5
    have H24 := Lib.hid h24
    clear hps hf hs h2 h3 h4 h24 h5 h0 hk
    go_enter Tryd.func15, Tryd.ntmps15
    go_wp2_with fail
    obtain ⟨W1, hW1⟩ : ∃ x, (w.alloc (.cells #[.slice ao ps.length cap] 24)).alloc (.cells #[.string kBegin, .string kVersion] 9) = x := ⟨_, rfl⟩
    have hO1 : Lift.Own Rd.str (fun _ => True) W1 (w.heap.size + 1) 9 (.slice (some ⟨w.heap.size + 1, 0, none⟩) 2 2) [kBegin, kVersion] := by
      have h1 := own_two (w.alloc (.cells #[.slice ao ps.length cap] 24)) (w.heap.size + 1) kBegin kVersion (by decide) (by decide) 9 (by simp)
      rw [World.size_alloc, hW1] at h1
      exact h1
    have hbW : Below w.heap.size w W1 := by rw [← hW1]; exact ((Below.refl _ w).alloc (Nat.le_refl _) _).alloc (by simp) _
    have hzW : W1.heap.size = w.heap.size + 2 := by rw [← hW1]; simp
    have hblkW : W1.heap[w.heap.size]? = some (.cells #[.slice ao ps.length cap] 24 (0, 0)) := by
      rw [← hW1]
      exact (((Below.refl _ _).alloc (Nat.le_refl _) _).block w.heap.size (by simp)).trans (heap_alloc_new w _)
    rw [show ((w.alloc (.cells #[.slice ao ps.length cap] 24)).alloc (.cells #[.string ⟨#[66, 69, 71, 73, 78, 58, 86, 67, 65, 82, 68]⟩, .string ⟨#[86, 69, 82, 83, 73, 79, 78, 58, 50, 46, 49]⟩] 9)) = W1 from hW1]
    have HO1 := Lib.hid hO1
    have HBW := Lib.hid hbW
    have HBkW := Lib.hid hblkW
    clear hW1 hO1 hbW hblkW
    go_loopw [3, 4] (fun v3 v4 wr => ∃ (i : Nat) (lv : List ByteArray), i ≤ ps.length ∧ v4 = .int .i64 i ∧ Hid (lv = [kBegin, kVersion] ++ (ps.take i).flatMap (pieceP d)) ∧ Hid (Lift.Own Rd.str (fun _ => True) wr (w.heap.size + 1) 9 v3 lv) ∧ Hid (Below (w.heap.size + 1) W1 wr)) (fun _ v4 _ => ps.length - (intOf v4).toNat)
    case atStart => exact ⟨0, [kBegin, kVersion], Nat.zero_le _, rfl, Lib.hid (by simp), HO1, Lib.hid (Below.refl _ _)⟩
    case round =>
      clear HO1
      obtain ⟨i, lv, hi, rfl, HV, HO, HB⟩ := hrel
      have hzr := HB.out.size
      have c0 := (Lib.cell_of_heap ((HB.out.block w.heap.size (by omega)).trans HBkW.out) 0).trans (show _ = some (Value.slice ao ps.length cap) from rfl)
      have hBw0 : Below w.heap.size w wr := HBW.out.trans (HB.out.mono (by omega))
      by_cases hil : i < ps.length
      · have hil2 : (i : Int) < (ps.length : Int) := by omega
        have h23 : i ≤ 24 := by have := H24.out; omega
        obtain ⟨⟨g, n, pl, v, gs⟩, hp⟩ := some_at hil
        have hpm : (g, n, pl, v, gs) ∈ ps := List.mem_of_getElem? hp
        obtain ⟨b, off, pa, pc, aa, ac, rfl, hS, hlt, s1, s2, s3, ⟨j1, j2, j3, j4⟩, ⟨i1, i2, i3, i4⟩, k0, k1, k2, k3, k4⟩ := prop_get (HH5.out.old hBw0) hp
        have hfp := HFine.out _ hpm
        have hqz := HZ.out _ hpm
        have hone := chkQ_one hqz.1
        dsimp only at j1 j3 j4 i1 i3 i4 k0 k1 k2 k3 k4 s1 s2 s3 hone
        have hpl4 := Lib.hid hone.2.2
        have hv6 := Lib.hid hone.2.1
        have hg1 := Lib.hid hone.1
        have HFA := Lib.hid hfp.2.2.2
        have HSA := Lib.hid (HSub.out _ hpm)
        have HZA := Lib.hid hqz.2
        have HI4 := Lib.hid i4
        have HJ4 := Lib.hid j4
        have HP := Lib.hid hp
        have HBw0 := Lib.hid hBw0
        obtain ⟨wo, rfl⟩ : ∃ x : World, x = wr := ⟨_, rfl⟩
        have hlo := Lib.hid HO.out.lt
        have Hil := Lib.hid (And.intro hil (And.intro h23 hi))
        have hnpa := Lib.hid j3
        obtain ⟨W2, hW2⟩ : ∃ x, (wo.alloc (.cells #[.string g, .string n, .slice pa pl.length pc, .string v, .slice none 0 0] 42)) = x := ⟨_, rfl⟩
        have hb2 : Below wo.heap.size wo W2 := by rw [← hW2]; exact (Below.refl _ _).alloc (Nat.le_refl _) _
        have hz2 : W2.heap.size = wo.heap.size + 1 := by rw [← hW2]; simp
        have hblk2 : W2.heap[wo.heap.size]? = some (.cells #[.string g, .string n, .slice pa pl.length pc, .string v, .slice none 0 0] 42 (0, 0)) := by rw [← hW2]; exact heap_alloc_new _ _
        have HB2 := Lib.hid hb2
        have Hz2 := Lib.hid hz2
        have HBk2 := Lib.hid hblk2
        have HW2 := Lib.hid hW2
        clear hone hfp hqz hpm hp j1 j2 j3 j4 i1 i2 i3 i4 s1 s2 s3 hBw0 hil h23 hi hW2 hb2 hz2 hblk2
        go_upto_region 8 with fail
        rw [HW2.out]
        clear HW2 k0 k1 k2 k3 k4 c0
        have hlt2 : wo.heap.size < W2.heap.size := by have := Hz2.out; omega
        have q2 := (Lib.cell_of_heap HBk2.out 2).trans (show _ = some (Value.slice pa pl.length pc) from rfl)
        have HM8 := Lib.hid (((HJ4.out.old ((HB2.out.mono (by have := HBw0.out.size; omega)).trans (((Below.refl _ W2).alloc (Nat.le_refl _) (.cells #[] 58)).mono (by have := HBw0.out.size; have := HB2.out.size; omega)))).apart (v := .slice (some ⟨W2.heap.size, 0, none⟩) 0 0) (fun k hk => by have e2 : W2.heap.size = k := Option.some.inj hk; have := HBw0.out.size; omega)))
        go_upto_block 2 with (first
          | (at_builtin; go_loud (refine wpList_pushAll rPar rfl _ _ 39 rfl (wo.heap.size + 1) 58 p0 _ 32 Tryd.underlying39 PI.out PZ0.out PZ1.out PZ2.out rfl (by decide) (fun _ => True) _ [] rfl (own_made _ _ _ _ _ (by omega)) pa pc pl rfl hnpa.out HM8.out par_one (by have := hpl4.out; unfold maxLen; simp; omega) (by have := hpl4.out; simp; omega) (by simp; omega) ?_; intro v3 w3 hO3 hK3 hw3; rw [List.nil_append] at hO3; obtain ⟨a2, c2, rfl⟩ := hO3.form; have HK3 := Lib.hid hK3; have HO3 := Lib.hid hO3; have hb3 := (hK3.block wo.heap.size (by simp; omega) (by intro e; have e2 : wo.heap.size = W2.heap.size := Option.some.inj e; omega)).trans (((Below.refl _ W2).alloc (Nat.le_refl _) _).block wo.heap.size hlt2 |>.trans HBk2.out); have HB3 := Lib.hid hb3; have z2 := (Lib.cell_of_heap hb3 2).trans (show _ = some (Value.slice pa pl.length pc) from rfl); have f2 := Lib.frozen_of_heap hb3 2; clear hO3 hK3 hw3 hb3 q2 HM8))
          | fail)
        obtain ⟨W3, hW3⟩ : ∃ x, w3.setCell ⟨wo.heap.size, 2, none⟩ (.slice a2 pl.length c2) = x := ⟨_, rfl⟩
        have hk3 : Kept (· = wo.heap.size) w3 W3 := by rw [← hW3]; exact Kept.setCell (X := (· = wo.heap.size)) w3 (p := ⟨wo.heap.size, 2, none⟩) rfl _
        have hb3 : W3.heap[wo.heap.size]? = some (.cells #[.string g, .string n, .slice a2 pl.length c2, .string v, .slice none 0 0] 42 (0, 0)) := by
          rw [← hW3]; simp [World.setCell, Array.getElem?_modify, HB3.out]
        have ho3 := HO3.out.flat (S' := fun _ => True) par_flat hk3 (fun k hk e => by have := (HO3.out.lt k hk).1; omega)
        have hB3 : Below wo.heap.size wo W3 := by
          have h1 : Below wo.heap.size wo w3 := (HB2.out.trans (((Below.refl _ W2).alloc (Nat.le_refl _) (.cells #[] 58)).mono (by omega))).trans (HK3.out.below (by simp; omega) (fun k e => by have e2 : k = W2.heap.size := Option.some.inj e; omega))
          exact h1.trans (hk3.below h1.size (fun k e => by omega))
        have HB3' := Lib.hid hb3
        have HO3' := Lib.hid ho3
        have HBo3 := Lib.hid hB3
        have hz3 : wo.heap.size < W3.heap.size := (Array.getElem?_eq_some_iff.1 hb3).1
        rw [hW3]
        have hv66 : v.size ≤ 600 := hv6.out
        clear hW3 hk3 hb3 ho3 hB3 HB3 HO3 HK3 z2 f2 hlt2
        go_cut [7, 8] from 33 to 77 (fun v7 v8 wx => ∃ (l' : List Par) (v' : ByteArray) (a' : Option Addr) (c' : Nat), Hid (rawP pl v = (l', v')) ∧ Hid (wx.heap[wo.heap.size]? = some (.cells #[.string g, .string n, .slice a' l'.length c', .string v', .slice none 0 0] 42 (0, 0))) ∧ Hid (Lift.Own rPar (fun _ => True) wx (wo.heap.size + 1) 58 (.slice a' l'.length c') l') ∧ Hid (Below wo.heap.size wo wx))
        case first =>
          --<
          as_aux_lemma =>
          have HPl := Lib.hid (plain_ref v (by omega) W3)
          have q3 := (Lib.cell_of_heap HB3'.out 3).trans (show _ = some (Value.string v) from rfl)
          cases hpl : isPlain v with
          | true =>
            have HR := Lib.hid (show rawP pl v = (pl, v) by unfold rawP; rw [if_pos hpl])
            rw [hpl] at HPl
            clear hpl
            go_wp2_with fail
            refine HPl.out.mono ?_
            rintro e w4 ⟨rfl, hb4⟩
            have HB4 := Lib.hid ((hb4.block wo.heap.size hz3).trans HB3'.out)
            have HO4 := Lib.hid (HO3'.out.below hb4)
            have HBo4 := Lib.hid (HBo3.out.trans (hb4.mono (by omega)))
            clear hb4 HPl
            go_wp2_with fail
            go_meet
            case rel => exact ⟨pl, v, a2, c2, HR, HB4, HO4, HBo4⟩
          | false =>
          have HRp := Lib.hid (show rawP pl v = if isValid v = true then (pl ++ [(kChr, kUtf), (kEnc, kQP)], ⟨(encL v.data.toList).toArray⟩) else (pl ++ [(kEnc, kB64)], ⟨(gapL (chunks 60 (sixB v))).toArray⟩) by unfold rawP; rw [if_neg (by rw [hpl]; simp)])
          rw [hpl] at HPl
          clear hpl
          go_wp2_with fail
          refine HPl.out.mono ?_
          rintro e w4 ⟨rfl, hb4⟩
          have HB4 := Lib.hid ((hb4.block wo.heap.size hz3).trans HB3'.out)
          have HO4 := Lib.hid (HO3'.out.below hb4)
          have HBo4 := Lib.hid (HBo3.out.trans (hb4.mono (by omega)))
          have hz4 : wo.heap.size < w4.heap.size := by have := hb4.size; omega
          have HVa := Lib.hid (dvalid_any v (by omega) w4)
          clear hb4 HPl q3 HO3' HB3' HBo3
          have q3 := (Lib.cell_of_heap HB4.out 3).trans (show _ = some (Value.string v) from rfl)
          cases hvd : isValid v with
          | true =>
            have HR := Lib.hid (HRp.out.trans (if_pos hvd))
            rw [hvd] at HVa
            clear hvd HRp
            go_wp2_with fail
            refine HVa.out.mono ?_
            rintro e w5 ⟨rfl, hb5⟩
            have HB5 := Lib.hid ((hb5.block wo.heap.size hz4).trans HB4.out)
            have HO5 := Lib.hid (HO4.out.below hb5)
            have HBo5 := Lib.hid (HBo4.out.trans (hb5.mono (by omega)))
            have hz5 : wo.heap.size < w5.heap.size := by have := hb5.size; omega
            have q2 := (Lib.cell_of_heap HB5.out 2).trans (show _ = some (Value.slice a2 pl.length c2) from rfl)
            clear hb5 HVa q3 HO4 HB4 HBo4
            have hne : some w5.heap.size ≠ (Value.slice a2 pl.length c2).ownBlock := fun e => by have := (HO5.out.lt _ e.symm).2; omega
            go_wp2_with (first
              | (at_builtin; go_loud (refine wpList_pushAll rPar rfl _ _ 39 rfl (wo.heap.size + 1) 58 p0 _ 32 Tryd.underlying39 PI.out PZ0.out PZ1.out PZ2.out rfl (by decide) (fun _ => True) (.slice a2 pl.length c2) pl rfl (HO5.out.alloc _) _ 2 [(kChr, kUtf), (kEnc, kQP)] rfl (by intro h; cases h) (two_pars _ _ (kChr, kUtf) (kEnc, kQP) ⟨by decide, by decide⟩ ⟨by decide, by decide⟩ _ _ rfl ⟨trivial, hne⟩) par_one (by have := hpl4.out; unfold maxLen; simp; omega) (by have := hpl4.out; simp; omega) (by simp; omega) ?_; intro v6 w6 hO6 hK6 hw6; obtain ⟨a6, c6, rfl⟩ := hO6.form; obtain ⟨L, hL⟩ : ∃ L, pl ++ [(kChr, kUtf), (kEnc, kQP)] = L := ⟨_, rfl⟩; rw [hL] at hO6 hw6; simp only [hL]; have HL := Lib.hid hL; clear hL; have hb6 := (hK6.block wo.heap.size (by simp; omega) (fun e => by have := (HO5.out.lt _ e.symm).1; omega)).trans (((Below.refl _ w5).alloc (Nat.le_refl _) _).block wo.heap.size hz5 |>.trans HB5.out); have z2 := (Lib.cell_of_heap hb6 2).trans (show _ = some (Value.slice a2 pl.length c2) from rfl); have z3 := (Lib.cell_of_heap hb6 3).trans (show _ = some (Value.string v) from rfl); have f2 := Lib.frozen_of_heap hb6 2; have HB6 := Lib.hid hb6; have HO6 := Lib.hid hO6; have HBo6 := Lib.hid (show Below wo.heap.size wo w6 from (HBo5.out.trans (((Below.refl _ w5).alloc (Nat.le_refl _) _).mono (by omega))).trans (hK6.below (by simp; omega) (fun k e => by have := (HO5.out.lt _ e.symm).1; omega))); clear hO6 hK6 hw6 hb6 q2))
              | fail)
            obtain ⟨W7, hW7⟩ : ∃ x, w6.setCell ⟨wo.heap.size, 2, none⟩ (.slice a6 L.length c6) = x := ⟨_, rfl⟩
            have hk7 : Kept (· = wo.heap.size) w6 W7 := by rw [← hW7]; exact Kept.setCell (X := (· = wo.heap.size)) w6 (p := ⟨wo.heap.size, 2, none⟩) rfl _
            have hb7 : W7.heap[wo.heap.size]? = some (.cells #[.string g, .string n, .slice a6 L.length c6, .string v, .slice none 0 0] 42 (0, 0)) := by
              rw [← hW7]; simp [World.setCell, Array.getElem?_modify, HB6.out]
            have HB7 := Lib.hid hb7
            have HO7 := Lib.hid (HO6.out.flat (S' := fun _ => True) par_flat hk7 (fun k hk e => by have := (HO6.out.lt k hk).1; omega))
            have HBo7 := Lib.hid (HBo6.out.trans (hk7.below HBo6.out.size (fun k e => by omega)))
            have hz7 : wo.heap.size < W7.heap.size := (Array.getElem?_eq_some_iff.1 hb7).1
            rw [hW7]
            clear hW7 hk7 hb7 HB6 HO6 HBo6 z2 z3 f2
            have HE := Lib.hid (qenc_ref v W7 (by omega))
            have HR2 := Lib.hid (show rawP pl v = (L, ⟨(encL v.data.toList).toArray⟩) by rw [HR.out, HL.out])
            obtain ⟨V, hV⟩ : ∃ V : ByteArray, ⟨(encL v.data.toList).toArray⟩ = V := ⟨_, rfl⟩
            unfold StrPost at HE
            rw [hV] at HR2 HE
            clear hV HR HL
            refine HE.out.mono ?_
            rintro e w8 ⟨rfl, hb8'⟩
            have hb8 := (hb8'.block wo.heap.size hz7).trans HB7.out
            have HO8 := Lib.hid (HO7.out.below hb8')
            have HBo8 := Lib.hid (HBo7.out.trans (hb8'.mono (by omega)))
            have z3 := (Lib.cell_of_heap hb8 3).trans (show _ = some (Value.string v) from rfl)
            have f3 := Lib.frozen_of_heap hb8 3
            have HB8 := Lib.hid hb8
            have hk9 : Kept (· = wo.heap.size) w8 (w8.setCell ⟨wo.heap.size, 3, none⟩ (.string V)) := Kept.setCell (X := (· = wo.heap.size)) w8 (p := ⟨wo.heap.size, 3, none⟩) rfl _
            have HB9 := Lib.hid (show (w8.setCell ⟨wo.heap.size, 3, none⟩ (.string V)).heap[wo.heap.size]? = some (.cells #[.string g, .string n, .slice a6 L.length c6, .string V, .slice none 0 0] 42 (0, 0)) by simp [World.setCell, Array.getElem?_modify, HB8.out])
            have HO9 := Lib.hid (HO8.out.flat (S' := fun _ => True) par_flat hk9 (fun k hk e => by have := (HO8.out.lt k hk).1; omega))
            have HBo9 := Lib.hid (HBo8.out.trans (hk9.below HBo8.out.size (fun k e => by omega)))
            clear hb8' hb8 hk9 HB7 HO7 HBo7 HE
            go_wp2_with fail
            go_meet
            case rel => exact ⟨L, V, a6, c6, HR2, HB9, HO9, HBo9⟩
          | false =>
            have HR := Lib.hid (HRp.out.trans (if_neg (by rw [hvd]; simp)))
            rw [hvd] at HVa
            clear hvd HRp
            go_wp2_with fail
            refine HVa.out.mono ?_
            rintro e w5 ⟨rfl, hb5⟩
            have HB5 := Lib.hid ((hb5.block wo.heap.size hz4).trans HB4.out)
            have HO5 := Lib.hid (HO4.out.below hb5)
            have HBo5 := Lib.hid (HBo4.out.trans (hb5.mono (by omega)))
            have hz5 : wo.heap.size < w5.heap.size := by have := hb5.size; omega
            have q2 := (Lib.cell_of_heap HB5.out 2).trans (show _ = some (Value.slice a2 pl.length c2) from rfl)
            clear hb5 HVa q3 HO4 HB4 HBo4
            have HE := Lib.hid (fun wx => sixenc_ref v (by omega) wx)
            go_wp2_with (first
              | (at_builtin; go_loud (refine wpList_push rPar rfl _ _ 39 rfl (wo.heap.size + 1) 58 p0 _ 32 Tryd.underlying39 PI.out PZ0.out PZ1.out PZ2.out rfl (by decide) (fun _ => True) (.slice a2 pl.length c2) pl rfl HO5.out [.string kEnc, .string kB64] (kEnc, kB64) _ rfl (by simp) (par_rel _ _ (kEnc, kB64) ⟨by decide, by decide⟩) (by simp [Value.oneCell']) (by have := hpl4.out; unfold maxLen; omega) (by have := hpl4.out; omega) (by omega) ?_; intro v6 w6 hO6 hK6 hw6; obtain ⟨a6, c6, rfl⟩ := hO6.form; obtain ⟨L, hL⟩ : ∃ L, pl ++ [(kEnc, kB64)] = L := ⟨_, rfl⟩; rw [hL] at hO6 hw6; simp only [hL]; have HL := Lib.hid hL; clear hL; have hb6 := (hK6.block wo.heap.size hz5 (fun e => by have := (HO5.out.lt _ e.symm).1; omega)).trans HB5.out; have z2 := (Lib.cell_of_heap hb6 2).trans (show _ = some (Value.slice a2 pl.length c2) from rfl); have z3 := (Lib.cell_of_heap hb6 3).trans (show _ = some (Value.string v) from rfl); have f2 := Lib.frozen_of_heap hb6 2; have HB6 := Lib.hid hb6; have HO6 := Lib.hid hO6; have HBo6 := Lib.hid (show Below wo.heap.size wo w6 from HBo5.out.trans (hK6.below (by omega) (fun k e => by have := (HO5.out.lt _ e.symm).1; omega))); clear hO6 hK6 hw6 hb6 q2))
              | fail)
            obtain ⟨W7, hW7⟩ : ∃ x, w6.setCell ⟨wo.heap.size, 2, none⟩ (.slice a6 L.length c6) = x := ⟨_, rfl⟩
            have hk7 : Kept (· = wo.heap.size) w6 W7 := by rw [← hW7]; exact Kept.setCell (X := (· = wo.heap.size)) w6 (p := ⟨wo.heap.size, 2, none⟩) rfl _
            have hb7 : W7.heap[wo.heap.size]? = some (.cells #[.string g, .string n, .slice a6 L.length c6, .string v, .slice none 0 0] 42 (0, 0)) := by
              rw [← hW7]; simp [World.setCell, Array.getElem?_modify, HB6.out]
            have HB7 := Lib.hid hb7
            have HO7 := Lib.hid (HO6.out.flat (S' := fun _ => True) par_flat hk7 (fun k hk e => by have := (HO6.out.lt k hk).1; omega))
            have HBo7 := Lib.hid (HBo6.out.trans (hk7.below HBo6.out.size (fun k e => by omega)))
            have hz7 : wo.heap.size < W7.heap.size := (Array.getElem?_eq_some_iff.1 hb7).1
            rw [hW7]
            clear hW7 hk7 hb7 HB6 HO6 HBo6 z2 z3 f2
            refine (HE.out _).mono ?_
            rintro e w8 ⟨rfl, hb8'⟩
            obtain ⟨s, hs⟩ : ∃ s, sixB v = s := ⟨_, rfl⟩
            have hsz : s.size ≤ 1000 := by
              rw [← hs]
              show (grps v ((v.size + 2) / 3)).length ≤ _
              rw [grps_len]; omega
            have HS := Lib.hid hs
            rw [hs]
            have HB8 := Lib.hid ((hb8'.block wo.heap.size hz7).trans HB7.out)
            have HO8 := Lib.hid (HO7.out.below hb8')
            have HBo8 := Lib.hid (HBo7.out.trans (hb8'.mono (by omega)))
            have hz8 : wo.heap.size < w8.heap.size := by have := hb8'.size; omega
            have HLr := Lib.hid (lines_ref s (by omega) 60 (by omega) (by omega) w8)
            clear hs hb8' HB7 HO7 HBo7 HE
            go_wp2_with fail
            refine HLr.out.mono ?_
            rintro e w9 ⟨ax, cx, rfl, hOx, hb9'⟩
            have hb9 := (hb9'.block wo.heap.size hz8).trans HB8.out
            have HO9 := Lib.hid (HO8.out.below hb9')
            have HBo9 := Lib.hid (HBo8.out.trans (hb9'.mono (by omega)))
            have z3 := (Lib.cell_of_heap hb9 3).trans (show _ = some (Value.string v) from rfl)
            have f3 := Lib.frozen_of_heap hb9 3
            have hall := chunks_all (wd := 60) (by omega) s.size s (Nat.le_refl _)
            have HX := Lib.hid hOx.here
            obtain ⟨xs, hxs⟩ : ∃ xs, chunks 60 s = xs := ⟨_, rfl⟩
            rw [hxs] at HX hall
            have HR2 := Lib.hid (show rawP pl v = (L, ⟨(gapL xs).toArray⟩) by rw [HR.out, HL.out, HS.out, hxs])
            rw [hxs]
            obtain ⟨W9, hW9⟩ : ∃ x, w9.setCell ⟨wo.heap.size, 3, none⟩ (.string ⟨#[]⟩) = x := ⟨_, rfl⟩
            have hk9 : Kept (· = wo.heap.size) w9 W9 := by rw [← hW9]; exact Kept.setCell (X := (· = wo.heap.size)) w9 (p := ⟨wo.heap.size, 3, none⟩) rfl _
            have HB9 := Lib.hid (show W9.heap[wo.heap.size]? = some (.cells #[.string g, .string n, .slice a6 L.length c6, .string ⟨(gapL (xs.take 0)).toArray⟩, .slice none 0 0] 42 (0, 0)) by
              rw [← hW9]; simp [World.setCell, Array.getElem?_modify, hb9, gapL])
            have HX9 := Lib.hid (show SlAt Rd.str (fun b => b ≠ wo.heap.size) w9 ax xs by
              rcases HX.out with h | ⟨q, o, e, hq, hlt', hc⟩
              · exact .inl h
              · refine .inr ⟨q, o, e, ?_, hlt', fun k c hk => ?_⟩
                · subst e; have := (hOx.lt q rfl).1; omega
                · obtain ⟨cs, h1, h2⟩ := hc k c hk
                  exact ⟨cs, str_flat _ _ _ _ _ _ h1, h2⟩)
            have HK9 := Lib.hid hk9
            have HW9 := Lib.hid hW9
            have hxl : xs.length ≤ 1000 := by omega
            have Hall := Lib.hid hall
            clear hb9' hOx hxs HB8 HO8 HBo8 HLr hb9 HR hW9 hk9 HX hall
            go_wp2_with fail
            rw [HW9.out]
            clear HW9 z3 f3
            go_loopw [8] (fun v8 wr => ∃ k : Nat, k ≤ xs.length ∧ v8 = .int .i64 k ∧ Hid (wr.heap[wo.heap.size]? = some (.cells #[.string g, .string n, .slice a6 L.length c6, .string ⟨(gapL (xs.take k)).toArray⟩, .slice none 0 0] 42 (0, 0))) ∧ Hid (Kept (· = wo.heap.size) w9 wr)) (fun v8 _ => xs.length - (intOf v8).toNat)
            case atStart => exact ⟨0, Nat.zero_le _, rfl, HB9, HK9⟩
            case round =>
              clear HB9 HK9
              obtain ⟨k, hk, rfl, HB, HK⟩ := hrel
              by_cases hkl : k < xs.length
              · have hkl2 : (k : Int) < (xs.length : Int) := by omega
                have hk1 : k ≤ 1000 := by omega
                obtain ⟨x, hx⟩ := some_at hkl
                obtain ⟨bx, ox, rfl, hSx, hlx, hok, y0⟩ := str_get (HX9.out.kept HK.out (fun b hb _ => hb)) hx
                have hx60 := (Hall.out.2.1 x (List.mem_of_getElem? hx)).2
                obtain ⟨T, hT⟩ : ∃ T : ByteArray, ⟨(gapL (xs.take k)).toArray⟩ = T := ⟨_, rfl⟩
                have hTz : T.size ≤ 10000 := by
                  rw [← hT]
                  show (gapL (xs.take k)).length ≤ _
                  rw [gapL_len, List.length_take]
                  have h1 := sumB_le xs k
                  have h2 := Hall.out.2.2
                  omega
                have HT := Lib.hid (show T ++ (⟨#[32]⟩ : ByteArray) ++ x = ⟨(gapL (xs.take (k + 1))).toArray⟩ by
                  rw [← hT, take_at2 hx, gapL_snoc]; apply ByteArray.ext; apply Array.toList_inj.1; simp)
                have hbk := HB.out
                rw [hT] at hbk
                have z3 := (Lib.cell_of_heap hbk 3).trans (show _ = some (Value.string T) from rfl)
                have f3 := Lib.frozen_of_heap hbk 3
                have HBk := Lib.hid hbk
                have HKn := Lib.hid (fun v => HK.out.trans (Kept.setCell (X := (· = wo.heap.size)) wr (p := ⟨wo.heap.size, 3, none⟩) rfl v) (fun _ _ h => h) (fun _ _ h => h))
                clear hT hbk hx
                go_wp2_with fail
                go_region
                obtain ⟨wn, hwn⟩ : ∃ y, (wr.setCell ⟨wo.heap.size, 3, none⟩ (.string (T ++ (⟨#[32]⟩ : ByteArray) ++ x))).drew = y := ⟨_, rfl⟩
                have HBn := Lib.hid (show wn.heap[wo.heap.size]? = some (.cells #[.string g, .string n, .slice a6 L.length c6, .string ⟨(gapL (xs.take (k + 1))).toArray⟩, .slice none 0 0] 42 (0, 0)) by
                  rw [← hwn, ← HT.out]
                  show (wr.setCell ⟨wo.heap.size, 3, none⟩ (.string (T ++ (⟨#[32]⟩ : ByteArray) ++ x))).heap[wo.heap.size]? = _
                  simp [World.setCell, Array.getElem?_modify, HBk.out])
                have HKn2 := Lib.hid (show Kept (· = wo.heap.size) w9 wn by rw [← hwn]; exact (HKn.out _).step ((Below.refl _ _).drew))
                rw [hwn]
                clear hwn HKn HBk z3 f3 HT
                go_wp2_with fail
                go_roundw
                case measure => simp [intOf]; omega
                case rel => exact ⟨k + 1, by omega, by go_num, HBn, HKn2⟩
              · obtain rfl : k = xs.length := by omega
                have HBf := Lib.hid (show wr.heap[wo.heap.size]? = some (.cells #[.string g, .string n, .slice a6 L.length c6, .string ⟨(gapL xs).toArray⟩, .slice none 0 0] 42 (0, 0)) by have := HB.out; rwa [List.take_length] at this)
                have HOf := Lib.hid (HO9.out.flat (S' := fun _ => True) par_flat HK.out (fun k hk e => by have := (HO9.out.lt k hk).1; omega))
                have HBof := Lib.hid (HBo9.out.trans (HK.out.below HBo9.out.size (fun k e => by omega)))
                go_wp2_with fail
                go_meet
                case rel => exact ⟨L, ⟨(gapL xs).toArray⟩, a6, c6, HR2, HBf, HOf, HBof⟩
          -->
        case rest =>
          --<
          obtain ⟨l', v', a', c', HRw, HBr, HOr, HBor⟩ := hcut
          obtain ⟨w4, rfl⟩ : ∃ x : World, x = wc := ⟨_, rfl⟩
          have hrl := rawP_le hpl4.out hv6.out
          rw [HRw.out] at hrl
          dsimp only at hrl
          have HPr := Lib.hid (print_ref g n v' none 0 0 a' c' l' w4 HOr.out.here (by omega) (by omega))
          have HLP := Lib.hid (show lineP (g, n, pl, v, gs) = ⟨(printP g n l' v' 0).1.toArray⟩ by unfold lineP; dsimp only; rw [HRw.out])
          obtain ⟨q0, q1, q2, q3, q4⟩ : w4.cell? ⟨wo.heap.size, 0, none⟩ = some (.string g) ∧ w4.cell? ⟨wo.heap.size, 1, none⟩ = some (.string n) ∧ w4.cell? ⟨wo.heap.size, 2, none⟩ = some (.slice a' l'.length c') ∧ w4.cell? ⟨wo.heap.size, 3, none⟩ = some (.string v') ∧ w4.cell? ⟨wo.heap.size, 4, none⟩ = some (.slice none 0 0) :=
            ⟨(Lib.cell_of_heap HBr.out 0).trans rfl, (Lib.cell_of_heap HBr.out 1).trans rfl, (Lib.cell_of_heap HBr.out 2).trans rfl, (Lib.cell_of_heap HBr.out 3).trans rfl, (Lib.cell_of_heap HBr.out 4).trans rfl⟩
          have HO4 := Lib.hid (HO.out.below HBor.out)
          have HB4 := Lib.hid (HB.out.trans (HBor.out.mono (by omega)))
          have HBw4 := Lib.hid (show Below (w.heap.size + 1) wo w4 from HBor.out.mono (by omega))
          have hz4 := HBor.out.size
          unfold propV at HPr
          clear HBo3 HB3' HO3' HBk2 HB2 HBr HOr HBor HRw
          go_wp2_with fail
          refine HPr.out.mono ?_
          rintro e w5 ⟨rfl, hb5⟩
          rw [← HLP.out]
          have hln := lineP_len (g, n, pl, v, gs)
          have hfl := fold75_len (g, n, pl, v, gs)
          obtain ⟨ln, hlne⟩ : ∃ s, lineP (g, n, pl, v, gs) = s := ⟨_, rfl⟩
          obtain ⟨er, her⟩ : ∃ x, (printP g n l' v' 0).2 = x := ⟨_, rfl⟩
          have HLN := Lib.hid hlne
          rw [hlne] at hln hfl ⊢
          rw [her]
          have HFo := Lib.hid (cfold_ref ln w5 (by omega))
          obtain ⟨fl, hfle⟩ : ∃ s, foldW ln 75 = s := ⟨_, rfl⟩
          have HFL := Lib.hid hfle
          rw [hfle] at HFo hfl
          have HO5 := Lib.hid (HO4.out.below hb5)
          have HB5 := Lib.hid (HB4.out.trans (hb5.mono (by omega)))
          have HBw5 := Lib.hid (HBw4.out.trans (hb5.mono (by omega)))
          have hz5 := hb5.size
          clear HPr hlne her hfle hb5 HO4 HB4 HBw4 HLP hln q0 q1 q2 q3 q4
          go_wp2_with fail
          refine HFo.out.mono ?_
          rintro e w6 ⟨af, cf, rfl, hOf, hb6⟩
          have HO6 := Lib.hid (HO5.out.below hb6)
          have HB6 := Lib.hid (HB5.out.trans (hb6.mono (by omega)))
          have HBw6 := Lib.hid (HBw5.out.trans (hb6.mono (by omega)))
          have hz6 := hb6.size
          have hcf := hOf.cap
          have HMf := Lib.hid (strs_apart (v := u3) hOf (fun k hk => (HO5.out.lt k hk).2))
          have hcn := Lib.hid hcf.2.2.2
          have hlv : lv.length + 2901 ≤ 2000000000 := by
            have h1 := (HBnd.out i).2
            have h2 := HBd.out
            rw [HV.out, List.length_append]; simp only [List.length_cons, List.length_nil]; omega
          clear HFo hOf hb6 HO5 HB5 HBw5 hcf
          go_wp2_with (first
            | (at_builtin; go_loud (refine wpList_pushAll Rd.str rfl _ _ 33 rfl (w.heap.size + 1) 9 i0 _ 16 Tryd.underlying33 HI.out HZ0.out HZ1.out HZ2.out rfl (by decide) (fun _ => True) u3 lv rfl HO6.out af cf fl rfl hcn.out HMf.out str_one (by unfold maxLen; omega) (by omega) (by omega) ?_; intro v7 w7 hO7 hK7 hw7; have HO7 := Lib.hid hO7; have hB7 := HO6.out.kbelow (Nat.le_refl _) (by omega) hK7; have HB7 := Lib.hid (HB6.out.trans hB7); have HBw7 := Lib.hid (HBw6.out.trans hB7); clear hO7 hK7 hw7 hB7 HO6 HB6 HBw6 HMf hcn))
            | fail)
          have hlt7 : lv.length + fl.length ≤ 2000000000 := by omega
          have HHV := HV
          have hww := HBw0.out.size
          clear HV HO HB hz6 hz5 hz4
          go_loopw [3, 11] (fun v3 v11 wr => ∃ (j : Nat) (lv2 : List ByteArray), j ≤ gs.length ∧ v11 = .int .i64 j ∧ Hid (lv2 = lv ++ fl ++ (gs.take j).flatMap (linesP d)) ∧ Hid (Lift.Own Rd.str (fun _ => True) wr (w.heap.size + 1) 9 v3 lv2) ∧ Hid (Below (w.heap.size + 1) W1 wr) ∧ Hid (Below (w.heap.size + 1) wo wr)) (fun _ v11 _ => gs.length - (intOf v11).toNat)
          case atStart => exact ⟨0, lv ++ fl, Nat.zero_le _, rfl, Lib.hid (by simp), HO7, HB7, HBw7⟩
          case round =>
            clear HO7 HB7 HBw7
            obtain ⟨j, lv2, hj, rfl, HV, HO, HB, HBw⟩ := hrel
            by_cases hjl : j < gs.length
            · have hjl2 : (j : Int) < (gs.length : Int) := by omega
              have hj0 : j = 0 := by have := hg1.out; omega
              have hj1 : j ≤ 1 := by omega
              obtain ⟨a, ha⟩ := some_at hjl
              have ham : a ∈ gs := List.mem_of_getElem? ha
              have hbb : Below w.heap.size wo wr := HBw.out.mono (by omega)
              obtain ⟨b2, off2, v2, haa, hS2, hlt2, hr, hcv, hv1⟩ := crd_get HI4.out ha
              obtain ⟨d2, ao2, cap2, hd2, hve, _, _, _, _⟩ := card_inv hr
              obtain rfl : v2 = .slice ao2 a.props.length cap2 := by simpa using hve
              subst haa
              have q0 := (hbb.cell (p := ⟨b2, off2 + j, none⟩) hS2).trans hcv
              obtain ⟨wi, rfl⟩ : ∃ x : World, x = wr := ⟨_, rfl⟩
              have hzi := HBw.out.size
              have HCa := Lib.hid (HIH.out k' m' a #[.slice ao2 a.props.length cap2] wi (HSA.out a ham) (by have := Hk.out; omega) (HFA.out a ham) (HZA.out a ham) ((rCrd d).mono _ _ _ _ _ (rel_old hr hbb) (fun b h1 h2 => h2)))
              have hbl := (linesP_bound d k' a (HSA.out a ham) (HZA.out a ham)).1
              have hll := Lib.hid (show lv2.length + (linesP d a).length ≤ 4000000000 by
                have := HBd.out
                rw [HV.out, hj0]; simp; omega)
              have Ha := Lib.hid ha
              clear hbb hr hcv hv1 hve ha ham hlt2 hd2 hj0 hbl
              go_wp2_with (first
                | (go_at_call 15; refine HCa.out.mono ?_; rintro e w8 ⟨al, cl, rfl, hOl, hbl⟩; have HO8 := Lib.hid (HO.out.below hbl); have HB8 := Lib.hid (HB.out.trans (hbl.mono (by omega))); have HBw8 := Lib.hid (HBw.out.trans (hbl.mono (by omega))); have hz8 := hbl.size; have hcl := Lib.hid hOl.cap.2.2.2; have HMl := Lib.hid (strs_apart (v := u3) hOl (fun k hk => (HO.out.lt k hk).2)); clear hOl hbl HCa q0)
                | (at_builtin; go_loud (refine wpList_pushAll Rd.str rfl _ _ 33 rfl (w.heap.size + 1) 9 i0 _ 16 Tryd.underlying33 HI.out HZ0.out HZ1.out HZ2.out rfl (by decide) (fun _ => True) u3 lv2 rfl HO8.out al cl (linesP d a) rfl hcl.out HMl.out str_one (by have := hll.out; unfold maxLen; omega) (by have := hll.out; omega) (by omega) ?_; intro v9 w9 hO9 hK9 hw9; have HO9 := Lib.hid hO9; have hB9 := HO8.out.kbelow (Nat.le_refl _) (by omega) hK9; have HB9 := Lib.hid (HB8.out.trans hB9); have HBw9 := Lib.hid (HBw8.out.trans hB9); clear hO9 hK9 hw9 hB9 HO8 HB8 HBw8 HMl hcl))
                | fail)
              have HV9 := Lib.hid (show lv2 ++ linesP d a = lv ++ fl ++ (gs.take (j + 1)).flatMap (linesP d) by rw [HV.out, take_at2 Ha.out]; simp)
              go_roundw
              case measure => simp [intOf]; omega
              case rel => exact ⟨j + 1, lv2 ++ linesP d a, by omega, by go_num, HV9, HO9, HB9, HBw9⟩
            · obtain rfl : j = gs.length := by omega
              have HV9 := Lib.hid (show lv2 = [kBegin, kVersion] ++ (ps.take (i + 1)).flatMap (pieceP d) by
                have h1 := HV.out
                rw [List.take_length] at h1
                rw [h1, HHV.out, take_at2 HP.out]
                unfold pieceP
                simp only [List.flatMap_append, List.flatMap_cons, List.flatMap_nil, List.append_nil, HLN.out, HFL.out, List.append_assoc])
              have hi1 : i + 1 ≤ ps.length := by have := Hil.out.1; omega
              have hi2 : i ≤ 24 := Hil.out.2.1
              go_wp2_with fail
              go_roundw
              case measure => simp [intOf]; omega
              case rel => exact ⟨i + 1, lv2, hi1, by go_num, HV9, HO, HB⟩
          -->
      · obtain rfl : i = ps.length := by omega
        have hlen : lv.length + 1 ≤ 2000000000 := by
          have h1 := (HBnd.out ps.length).2
          have h2 := HBd.out
          rw [HV.out, List.length_append]; simp only [List.length_cons, List.length_nil]; omega
        have HV9 := Lib.hid (show lv ++ [kEndC] = linesP (d + 1) c by rw [HV.out, HLn.out, List.take_length])
        have HBw0 := Lib.hid hBw0
        clear hBw0
        go_wp2_with (first
          | (at_builtin; go_loud (refine wpList_push Rd.str rfl _ _ 33 rfl (w.heap.size + 1) 9 i0 _ 16 Tryd.underlying33 HI.out HZ0.out HZ1.out HZ2.out rfl (by decide) (fun _ => True) u3 lv rfl HO.out [.string kEndC] kEndC _ rfl (by simp) (str_rel _ _ kEndC (by decide)) (by simp [Value.oneCell']) (by unfold maxLen; omega) (by omega) (by omega) ?_; intro v9 w9 hO9 hK9 hw9; rw [HV9.out] at hO9; have HB9 := Lib.hid (HBw0.out.trans ((HO.out.kbelow (Nat.le_refl _) (by omega) hK9).mono (by omega))); have HO9 := Lib.hid hO9; clear hO9 hK9 hw9))
          | fail)
        go_ret
        obtain ⟨a9, c9, rfl⟩ := HO9.out.form
        exact ⟨a9, c9, rfl, HO9.out.rebase (by omega), HB9.out⟩
end Go.Proofs.YtcfbmfcobpfcjaaDoor
