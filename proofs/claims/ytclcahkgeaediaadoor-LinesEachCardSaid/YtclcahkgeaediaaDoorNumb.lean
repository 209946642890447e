/- Lines unfolded: the document's Numbered. -/
import Derived.Test.YtclcahkgeaediaaDoorUnfold
import Derived.RegionTactic
import Derived.IntWalk
import Derived.ChangeAlike
import Derived.StillTailTactics
namespace Go.Proofs.YtclcahkgeaediaaDoor
open Go.RowKit Lift
set_option linter.unusedSimpArgs false
set_option linter.unusedVariables false

theorem int_flat2 : Flat (Rd.int .i64) := fun _ _ _ _ _ _ h => h
theorem numb_len2 (l : List ByteArray) : ∀ k, ∀ x ∈ numb l k, x.1 ≤ k ∧ 1 ≤ x.1
  | 0 => by simp [numb]
  | k + 1 => by
    intro x hx
    have ih := numb_len2 l k
    unfold numb at hx
    split at hx
    · have := ih x hx; omega
    · split at hx
      · rename_i h1
        obtain ⟨m, p, hmp⟩ : ∃ m p, numb l k = m ++ [p] := ⟨_, _, (List.dropLast_concat_getLast h1.2).symm⟩
        rw [hmp, addLast_snoc] at hx
        rw [hmp] at ih
        rcases List.mem_append.1 hx with hx | hx
        · have := ih x (List.mem_append_left _ hx); omega
        · rw [List.mem_singleton.1 hx]
          have := ih p (by simp)
          simp only; omega
      · rcases List.mem_append.1 hx with hx | hx
        · have := ih x hx; omega
        · rw [List.mem_singleton.1 hx]; simp only; omega
theorem numb_sizes (l : List ByteArray) : ∀ k, k ≤ l.length → ∀ x ∈ numb l k, x.2.size ≤ sumB (l.take k) := by
  have h : ∀ k, k ≤ l.length → ∀ x ∈ numb l k, x.2.size ≤ sumB (l.take k) := by
    intro k
    induction k with
    | zero => intro _ x hx; simp [numb] at hx
    | succ k ih =>
      intro hk x hx
      obtain ⟨c, hc⟩ := some_at (l := l) (k := k) (by omega)
      have ht := sumB_take hc
      have ih' := ih (by omega)
      by_cases h1 : blAt c 0 = true ∧ numb l k ≠ []
      · rw [numb_add hc h1.1 h1.2] at hx
        obtain ⟨m, p, hmp⟩ : ∃ m p, numb l k = m ++ [p] := ⟨_, _, (List.dropLast_concat_getLast h1.2).symm⟩
        rw [hmp, addLast_snoc] at hx
        rw [hmp] at ih'
        rcases List.mem_append.1 hx with hx | hx
        · have := ih' x (List.mem_append_left _ hx); omega
        · rw [List.mem_singleton.1 hx]
          have h2 := ih' p (by simp)
          have h3 : (⟨(p.2.data.toList ++ c.data.toList).toArray⟩ : ByteArray).size = p.2.size + c.size := by
            show (p.2.data.toList ++ c.data.toList).toArray.size = _
            simp
          simp only [h3]; omega
      · rw [numb_new hc h1] at hx
        rcases List.mem_append.1 hx with hx | hx
        · have := ih' x hx; omega
        · rw [List.mem_singleton.1 hx]; simp only; omega
  exact h
theorem addLast_maps {m : List NL} {ms : List ByteArray} {y c : ByteArray} (h : ms = m.map (·.2)) (hp : 0 < ms.length) (hy : ms[ms.length - 1]? = some y) :
    ms.set (ms.length - 1) (y ++ c) = (addLast m c).map (·.2) ∧ m.map (fun x => ((x.1 : Nat) : Int)) = (addLast m c).map (fun x => ((x.1 : Nat) : Int)) := by
  subst h
  have hne : m ≠ [] := by rintro rfl; simp at hp
  obtain ⟨q, p, rfl⟩ : ∃ q p, m = q ++ [p] := ⟨_, _, (List.dropLast_concat_getLast hne).symm⟩
  have hy2 : p.2 = y := by
    rw [List.length_map, List.length_append, List.length_singleton, Nat.add_sub_cancel, List.map_append, List.getElem?_append_right (by simp)] at hy
    simpa using hy
  have hyc : y ++ c = ⟨(p.2.data.toList ++ c.data.toList).toArray⟩ := by
    rw [hy2]; apply ByteArray.ext; apply Array.toList_inj.1; simp
  rw [addLast_snoc, hyc, List.length_map, List.length_append, List.length_singleton, Nat.add_sub_cancel]
  constructor
  · rw [List.map_append, List.map_append, List.set_append_right _ _ (by simp)]; simp
  · simp
theorem apart_push {v v' u : Value} {w : World} (h : ∀ k, v.ownBlock = some k → u.ownBlock ≠ some k) (hu : ∀ k, u.ownBlock = some k → k < w.heap.size) (hv : v'.ownBlock = v.ownBlock ∨ ∃ g, v'.ownBlock = some g ∧ w.heap.size < g) : ∀ k, v'.ownBlock = some k → u.ownBlock ≠ some k := by
  intro k hk e
  rcases hv with hv | ⟨g, hv, hg⟩
  · exact h k (by rw [← hv]; exact hk) e
  · rw [hv] at hk; cases hk
    have := hu _ e; omega
theorem map_last {α β : Type} (f : α → β) (m : List α) (p q : α) : ((m ++ [p]).map f).set m.length (f q) = (m ++ [q]).map f := by
  rw [List.map_append, List.map_append, List.set_append_right _ _ (by simp)]; simp
def NumPost (l : List NL) (w : World) (e : Ending) (w' : World) : Prop := ∃ ao cap bo cap2, e = .returned (.tuple #[.slice ao l.length cap, .slice bo l.length cap2]) ∧ Lift.Own (Rd.int .i64) (fun _ => True) w' w.heap.size 3 (.slice ao l.length cap) (l.map fun x => ((x.1 : Nat) : Int)) ∧ Lift.Own Rd.str (fun _ => True) w' w.heap.size 9 (.slice bo l.length cap2) (l.map (·.2)) ∧ Below w.heap.size w w'
theorem int_info0 : ∃ i0, Tryd.prog.info? 3 = some i0 ∧ i0.zero = some (.int .i64 0) ∧ i0.size = 1 ∧ i0.bytes = 8 := info_parts (by kernel_rfl : (Tryd.prog.info? 3).map (fun i => (i.zero, i.size, i.bytes)) = some (some (.int .i64 0), 1, 8))

set_option maxHeartbeats 8000000 in
set_option maxRecDepth 100000 in
theorem numbered_ref (ao : Option Addr) (cap : Nat) (l : List ByteArray) (w : World) (hl : SlAt Rd.str (· < w.heap.size) w ao l) (hlen : l.length ≤ 100000) (hsum : sumB l ≤ 100000) :
    Calls Tryd.prog 12 #[.slice ao l.length cap] w (NumPost (numb l l.length) w) := by
  obtain ⟨i0, hi, hz0, hz1, hz2⟩ := str_info0
  have HI := Lib.hid hi; have HZ0 := Lib.hid hz0; have HZ1 := Lib.hid hz1; have HZ2 := Lib.hid hz2
  clear hi hz0 hz1 hz2
  obtain ⟨j0, hi, hz0, hz1, hz2⟩ := int_info0
  have HJ := Lib.hid hi; have HY0 := Lib.hid hz0; have HY1 := Lib.hid hz1; have HY2 := Lib.hid hz2
  clear hi hz0 hz1 hz2
  go_enter Tryd.func12, Tryd.ntmps12
  go_wp2_with fail
  go_loopw [4, 5, 6] (fun v4 v5 v6 wr => ∃ (k : Nat) (ns : List Int) (ms : List ByteArray), k ≤ l.length ∧ v6 = .int .i64 k ∧ Hid (ns = (numb l k).map (fun x => ((x.1 : Nat) : Int)) ∧ ms = (numb l k).map (·.2)) ∧ ns.length = ms.length ∧ ms.length ≤ k ∧ Lift.Own (Rd.int .i64) (fun _ => True) wr w.heap.size 3 v4 ns ∧ Lift.Own strU (fun _ => True) wr w.heap.size 9 v5 ms ∧ Hid (∀ k, v4.ownBlock = some k → v5.ownBlock ≠ some k) ∧ Below w.heap.size w wr) (fun _ _ v6 _ => l.length - (intOf v6).toNat)
  case atStart => exact ⟨0, [], [], by omega, rfl, Lib.hid (by simp [numb]), rfl, by simp, Lift.Own.nil _ _ _ _ _, Lift.Own.nil _ _ _ _ _, Lib.hid (fun k h => by cases h), Below.refl _ _⟩
  case round =>
    obtain ⟨k, ns, ms, hk, rfl, hnm, hln, hlm, hN, hM, hap, hb⟩ := hrel
    have hz := bsize hb
    have HLN := Lib.hid hln
    have hln1 : ns.length ≤ k := by omega
    clear hln
    obtain ⟨aN, cN, rfl⟩ := hN.form
    obtain ⟨aM, cM, rfl⟩ := hM.form
    by_cases hkl : k < l.length
    · obtain ⟨c, hcl⟩ := some_at hkl
      obtain ⟨bb, oo, rfl, hs1, hb1, hok, x0⟩ := str_get (hl.old hb) hcl
      have hk2 : (k : Int) < (l.length : Int) := by omega
      have hlim : k ≤ 100000 := by omega
      have hcz : c.size ≤ 100000 := by
        have h1 := sumB_take hcl
        have h2 := sumB_take_le l (k + 1)
        omega
      have HB := Lib.hid (fun w => blank_at c 0 w (by omega) (by omega))
      have HBs := Lib.hid (show ∀ w, Calls Tryd.prog 16 #[.string c, .int .i64 0] w (BoolPost (blAt c 0) w) from HB.out)
      clear HB
      have HNB := Lib.hid (show ∀ b, b < w.heap.size → ¬ (some b = (Value.slice aN ns.length cN).ownBlock) from fun b h e => by have := (hN.lt _ e.symm).1; omega)
      by_cases hgo : blAt c 0 = true ∧ 0 < ms.length
      · obtain ⟨hbl, hmp⟩ := hgo
        have hadd := Lib.hid (show numb l (k + 1) = addLast (numb l k) c from numb_add hcl hbl (by intro h; have := hnm.out.2; rw [h] at this; rw [this] at hmp; simp at hmp))
        rw [hbl] at HBs
        have HSZ := Lib.hid (fun x hx => Nat.le_trans (numb_sizes l k (by omega) x hx) (sumB_take_le l k))
        clear hbl hcl HNB
        obtain ⟨gM, rfl⟩ : ∃ g, aM = some ⟨g, 0, none⟩ := by
          obtain ⟨xs, h1, _⟩ := hM
          rcases h1.2 with ⟨e, e2⟩ | ⟨g, cap, cur, e, _⟩
          · omega
          · injection e with e; exact ⟨g, e⟩
        obtain ⟨y, hyl⟩ := some_at (show ms.length - 1 < ms.length by omega)
        have hyz : y.size ≤ 100000 := by
          have hm := List.mem_of_getElem? hyl
          rw [hnm.out.2] at hm
          obtain ⟨x, hx, rfl⟩ := List.mem_map.1 hm
          have := HSZ.out x hx; omega
        obtain ⟨cs, hcs, hcell⟩ := hM.at hyl
        obtain rfl : cs = [.string y] := hcs
        have y0 : wr.cell? ⟨gM, ms.length - 1, none⟩ = some (.string y) := by have := hcell 0 _ rfl; simpa [strU] using this
        have g0 := hM.free (ms.length - 1)
        have hgl := (hM.lt gM rfl).2
        have hm1 : (0 : Int) < (ms.length : Int) := by omega
        have hm2 : ((ms.length : Int) - 1).toNat = ms.length - 1 := by omega
        go_wp2_with fail
        refine (HBs.out _).mono ?_
        rintro e w1 ⟨rfl, rfl⟩
        go_wp2_with fail
        have hq1 : IntKind.i64.wrap ((ms.length : Int) - 1) = (ms.length : Int) - 1 := IntWalk.i64_in _ (by omega)
        have hq2 : (0 : Int) ≤ (ms.length : Int) - 1 := by omega
        have hq3 : (ms.length : Int) - 1 < (ms.length : Int) := by omega
        have hq4 : (1 : Int) ≤ (ms.length : Int) := by omega
        have hq5 : 1 ≤ ms.length := by omega
        have hsc : ¬ (9223372036854775807 < y.size + c.size) := by omega
        obtain ⟨W2, hW2, hbd⟩ : ∃ W2, { wr with drawn := wr.drawn + 1 } = W2 ∧ Below wr.heap.size wr W2 := ⟨_, rfl, (Below.refl _ wr).drew⟩
        have hM2 := hM.below hbd
        have hN2 := hN.below hbd
        have x1 := (hbd.cell (p := ⟨bb, oo + k, none⟩) hb1).trans x0
        have y1 := (hbd.cell (p := ⟨gM, ms.length - 1, none⟩) hgl).trans y0
        have g1 := (hbd.frozen (p := ⟨gM, ms.length - 1, none⟩) hgl).trans g0
        have hz2 := hbd.size
        have hb2 : bb < W2.heap.size := by omega
        have hg2 : gM < W2.heap.size := by omega
        refine wp_region_still_tail 16 (by kernel_rfl) (by kernel_rfl) ?_
        rw [hW2]
        clear hW2 x0 y0 g0
        simp only [List.take_succ_cons, List.take_zero, List.drop_succ_cons, List.drop_zero]
        repeat still_step
        refine wpStill_nil ?_
        go_wp2_with fail
        have hst := hM2.store (k := ms.length - 1) (by omega) (cs := [.string (y ++ c)]) (c := y ++ c) rfl
        have hse : W2.setCells gM ((ms.length - 1) * strU.n) [.string (y ++ c)] = W2.setCell ⟨gM, ms.length - 1, none⟩ (.string (y ++ c)) := by
          show W2.setCells gM ((ms.length - 1) * 1) _ = _
          rw [Nat.mul_one]; rfl
        rw [hse] at hst
        obtain ⟨hst1, hst2⟩ := hst
        have hmp2 := addLast_maps (c := c) hnm.out.2 hmp hyl
        have hMlt := (hM2.lt gM rfl).1
        go_roundw
        case measure => simp [intOf]; omega
        case rel => exact ⟨k + 1, ns, ms.set (ms.length - 1) (y ++ c), by omega, by go_num, Lib.hid (by rw [hadd.out, hnm.out.1]; exact ⟨hmp2.2, hmp2.1⟩), by simp [HLN.out], by simp; omega,
          hN2.flat int_flat2 hst2 (fun k hk e => hap.out k hk (by rw [e]; rfl)), hst1, hap,
          (hb.trans (hbd.mono hz)).trans (hst2.below (by omega) (fun k e => by omega))⟩
      · have hNW := Lib.hid (show numb l (k + 1) = numb l k ++ [(k + 1, c)] from numb_new hcl (fun h => hgo ⟨h.1, by rw [hnm.out.2, List.length_map]; exact List.length_pos_iff.2 h.2⟩))
        cases hbl : blAt c 0
        case' false =>
          rw [hbl] at HBs
          clear hbl hgo hcl
          go_wp2_with fail
          refine (HBs.out _).mono ?_
          rintro e w1 ⟨rfl, rfl⟩
        case' true =>
          have hm0 : ms.length ≤ 0 := by
            rcases Nat.eq_zero_or_pos ms.length with h | h
            · omega
            · exact absurd ⟨hbl, h⟩ hgo
          rw [hbl] at HBs
          clear hbl hgo hcl
          go_wp2_with fail
          refine (HBs.out _).mono ?_
          rintro e w1 ⟨rfl, rfl⟩
        all_goals
          clear HBs
          go_wp2_with (first | (at_builtin; refine wpList_push (Rd.int .i64) rfl _ _ 30 rfl w.heap.size 3 j0 _ 8 Tryd.underlying30 HJ.out HY0.out HY1.out HY2.out rfl (by decide) (fun _ => True) _ ns rfl hN [.int .i64 ((k : Int) + 1)] ((k : Int) + 1) _ rfl (by simp) ⟨rfl, Wf.of (by omega) (by omega)⟩ (by simp [Value.oneCell']) (by unfold maxLen; omega) (by omega) (by omega) ?_; intro v2 w2 hN2 hK2 hw2; have x1 := (hK2.cell (p := ⟨bb, oo + k, none⟩) hb1 (HNB.out bb hs1)).trans x0; have hz2 := hK2.size; have hb2 : bb < w2.heap.size := (by omega); obtain ⟨aN2, cN2, rfl⟩ := hN2.form; have hM2 := hM.flat strU_flat (S' := fun _ => True) hK2 (fun k hk e => hap.out _ e.symm hk); have hap2 := Lib.hid (apart_push hap.out (fun k hk => (hM.lt k hk).2) hw2); clear hw2) | (at_builtin; refine wpList_push strU rfl _ _ 22 rfl w.heap.size 9 i0 _ 16 Tryd.underlying22 HI.out HZ0.out HZ1.out HZ2.out rfl (by decide) (fun _ => True) _ ms rfl hM2 [.string c] c _ rfl (by simp) rfl (by simp [Value.oneCell']) (by unfold maxLen; omega) (by omega) (by omega) ?_; intro v3 w3 hM3 hK3 hw3; obtain ⟨aM3, cM3, rfl⟩ := hM3.form))
          have hz3 := hK3.size
          go_roundw
          case measure => simp [intOf]; omega
          case rel => exact ⟨k + 1, ns ++ [(k : Int) + 1], ms ++ [c], by omega, by go_num, Lib.hid (by rw [hNW.out, List.map_append, List.map_append, ← hnm.out.1, ← hnm.out.2]; exact ⟨rfl, rfl⟩), by simp [HLN.out], by simp; omega,
            by have h := hN2.flat int_flat2 (S' := fun _ => True) hK3 (fun k hk e => hap2.out _ hk e.symm); rw [List.length_append, List.length_singleton] at h; exact h,
            by have h := hM3; rw [List.length_append, List.length_singleton] at h; exact h,
            Lib.hid (fun k hk e => apart_push (fun k hk e => hap2.out _ e hk) (fun k hk => (hN2.lt k hk).2) hw3 k (by rw [List.length_append, List.length_singleton]; exact e) (by rw [List.length_append, List.length_singleton]; exact hk)),
            (hb.trans ((hN.kbelow (Nat.le_refl _) hz hK2))).trans (hM2.kbelow (Nat.le_refl _) (by omega) hK3)⟩
    · obtain rfl : k = l.length := by omega
      clear hkl
      have h1 := Lib.hid (show (numb l l.length).length = ns.length by rw [hnm.out.1, List.length_map])
      have h2 := Lib.hid (show (numb l l.length).length = ms.length by rw [hnm.out.2, List.length_map])
      go_wp2_with fail
      go_ret2
      refine ⟨aN, cN, aM, cM, by rw [h2.out, HLN.out]; rfl, ?_, ?_, hb⟩
      · rw [← hnm.out.1, h1.out]; exact hN
      · rw [← hnm.out.2, h2.out]
        refine strU_own hM (fun c hc => ?_)
        rw [hnm.out.2] at hc
        obtain ⟨x, hx, rfl⟩ := List.mem_map.1 hc
        have := numb_size l x hx
        unfold maxTx; omega
end Go.Proofs.YtclcahkgeaediaaDoor
