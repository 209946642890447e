/- The law's behind: pairs behind writes. -/
import Derived.Test.YtdebfnlnpfienaaGreatDoorKeE
import Derived.Test.YtdebfnlnpfienaaGreatDoorOrdTail
namespace Lift
open Go Go.RowKit
theorem act_mid {a a0 : Act} {L : List Value} (lo m : Nat) (h0 : a0.tmps = L.toArray) (hlm : lo + m ≤ L.length) (htm : a.tmps.size = a0.tmps.size) (hdf : a.defers = a0.defers) (hr : ∀ t, (t < lo ∨ lo + m ≤ t) → a.tmps.getD t undef = a0.tmps.getD t undef) :
    a = { tmps := (L.take lo ++ ((List.range m).map (fun i => a.tmps.getD (lo + i) undef) ++ L.drop (lo + m))).toArray, defers := a0.defers } := by
  have hsz : a.tmps.size = L.length := by rw [htm, h0]; simp
  suffices ht : a.tmps = (L.take lo ++ ((List.range m).map (fun i => a.tmps.getD (lo + i) undef) ++ L.drop (lo + m))).toArray by
    rw [← hdf]
    obtain ⟨tm, df⟩ := a
    exact congrArg (fun x => Act.mk x df) ht
  apply Array.ext_getElem?
  intro t
  by_cases ht : t < L.length
  · have hget : ∀ (x : Array Value), x.size = L.length → x[t]? = some (x.getD t undef) := fun x hx => by
      rw [Array.getD_eq_getD_getElem?, Array.getElem?_eq_getElem (by omega)]; rfl
    rw [hget _ hsz]
    by_cases h1 : t < lo
    · have := hr t (.inl h1)
      rw [this, h0, Array.getD_eq_getD_getElem?]
      simp only [List.getElem?_toArray]
      rw [List.getElem?_append_left (by simp; omega), List.getElem?_take_of_lt h1, List.getElem?_eq_getElem ht]
      rfl
    · by_cases h2 : t < lo + m
      · simp only [List.getElem?_toArray]
        rw [List.getElem?_append_right (by simp; omega), List.length_take, Nat.min_eq_left (by omega), List.getElem?_append_left (by simp; omega)]
        rw [List.getElem?_map, List.getElem?_range (by omega)]
        simp only [Option.map_some]
        rw [show lo + (t - lo) = t by omega]
      · have := hr t (.inr (by omega))
        rw [this, h0, Array.getD_eq_getD_getElem?]
        simp only [List.getElem?_toArray]
        rw [List.getElem?_append_right (by simp; omega), List.length_take, Nat.min_eq_left (by omega), List.getElem?_append_right (by simp; omega)]
        simp only [List.length_map, List.length_range, List.getElem?_drop]
        rw [show lo + m + (t - lo - m) = t by omega, List.getElem?_eq_getElem ht]
        rfl
  · rw [Array.getElem?_eq_none (by omega), Array.getElem?_eq_none (by simp; omega)]
end Lift
namespace Go.Proofs.YtdebfnlnpfienaaGreatDoor
open Go.RowKit Lift Go.Maps
set_option linter.unusedSimpArgs false
set_option linter.unusedVariables false

def kcut (M : List KV) (w : KW) : List KV := match M with | [] => [] | p :: r => if p.1 = w.1 then r else p :: r
theorem kdo_cut (w : KW) : ∀ (k : Nat) (M : List KV), k ≤ M.length → (∀ (j : Nat) (p : KV), j < k → M[j]? = some p → bl p.1 < bl w.1) → (∀ p, M[k]? = some p → ¬ bl p.1 < bl w.1) → kdo M w = M.take k ++ wput w ++ kcut (M.drop k) w
  | 0, [], _, _, _ => by simp [kdo, kcut]
  | 0, p :: r, _, _, h => by
    have := h p rfl
    simp only [kdo, if_neg this, List.take_zero, List.nil_append, List.drop_zero, kcut]
  | k + 1, [], h, _, _ => by simp at h
  | k + 1, p :: r, h, h1, h2 => by
    have h0 := h1 0 p (by omega) rfl
    have ih := kdo_cut w k r (by simpa using h) (fun j q hj hq => h1 (j + 1) q (by omega) (by simpa using hq)) (fun q hq => h2 q (by simpa using hq))
    simp only [kdo, if_pos h0, ih, List.take_succ_cons, List.cons_append, List.drop_succ_cons]
theorem kv_info0 : ∃ i0, Tryz.prog.info? 72 = some i0 ∧ i0.zero = some (.agg #[.string ByteArray.empty, .string ByteArray.empty]) ∧ i0.size = 2 ∧ i0.bytes = 32 := info_parts kv_info
theorem foldl_take {M : List KV} {ws : List KW} {i : Nat} {c : KW} (h : ws[i]? = some c) : (ws.take (i + 1)).foldl kdo M = kdo ((ws.take i).foldl kdo M) c := by
  rw [take_at2 h, List.foldl_append]; rfl
theorem foldl_len (M : List KV) : ∀ (ws : List KW), (ws.foldl kdo M).length ≤ M.length + ws.length
  | [] => by simp
  | c :: r => by
    have h1 := kdo_len c M
    have h2 := foldl_len (kdo M c) r
    have h3 : (if c.2.2 = true then 0 else 1 : Nat) ≤ 1 := by split <;> omega
    simp only [List.foldl_cons, List.length_cons]; omega
theorem bytes_lt : ∀ (x y : List UInt8), Op.bytesLess x y = decide (x < y)
  | [], [] => by simp [Op.bytesLess]
  | _ :: _, [] => by simp [Op.bytesLess]
  | [], _ :: _ => by simp [Op.bytesLess]
  | a :: x, b :: y => by
    rw [Op.bytesLess, bytes_lt x y]
    by_cases h1 : a < b
    · simp [h1, List.cons_lt_cons_iff]
    · by_cases h2 : a = b
      · subst h2; simp [List.cons_lt_cons_iff]
      · simp [h1, h2, List.cons_lt_cons_iff]
theorem less_bl (a b : ByteArray) : Op.bytesLess a.toList b.toList = decide (bl a < bl b) := by
  rw [ByteArray.toList_eq, ByteArray.toList_eq]
  exact bytes_lt _ _
theorem lt13 {i : Nat} (h : i < 13) : i = 0 ∨ i = 1 ∨ i = 2 ∨ i = 3 ∨ i = 4 ∨ i = 5 ∨ i = 6 ∨ i = 7 ∨ i = 8 ∨ i = 9 ∨ i = 10 ∨ i = 11 ∨ i = 12 := by omega
theorem lt15 {i : Nat} (h : i < 15) : i = 0 ∨ i = 1 ∨ i = 2 ∨ i = 3 ∨ i = 4 ∨ i = 5 ∨ i = 6 ∨ i = 7 ∨ i = 8 ∨ i = 9 ∨ i = 10 ∨ i = 11 ∨ i = 12 ∨ i = 13 ∨ i = 14 := by omega
def RB (g k c b off i wl cap2 sz : Nat) (ck cv : ByteArray) : Nat → Value → World → Prop
  | 0, v, _ => v = .slice (some ⟨g, 0, none⟩) k c
  | 1, v, _ => v = .slice (some ⟨b, off, none⟩) wl cap2
  | 2, v, _ => v = .int .i64 i
  | 3, v, _ => v = .pointer (some ⟨b, off + i * 3, none⟩)
  | 4, v, _ => v = .pointer (some ⟨b, off + i * 3, none⟩)
  | 5, v, _ => v = .string ck
  | 6, v, _ => v = .slice (some ⟨b, off, none⟩) wl cap2
  | 7, v, _ => v = .int .i64 i
  | 8, v, _ => v = .pointer (some ⟨b, off + i * 3, none⟩)
  | 9, v, _ => v = .pointer (some ⟨b, off + i * 3 + 1, none⟩)
  | 10, v, _ => v = .string cv
  | 11, v, _ => v = .agg #[.string ck, .string cv]
  | 12, v, w => ∃ q, v = .slice (some ⟨q, 0, none⟩) 1 1 ∧ sz ≤ q ∧ w.heap[q]? = some (.cells #[.string ck, .string cv] 72 (0, 0))
  | _ + 13, _, _ => False
theorem sl_pair {w : World} {S : Nat → Prop} {q : Nat} {ck cv : ByteArray} (h : w.heap[q]? = some (.cells #[.string ck, .string cv] 72 (0, 0))) (hs : S q) (h1 : ck.size ≤ maxTx) (h2 : cv.size ≤ maxTx) : SlAt rKV S w (some ⟨q, 0, none⟩) [(ck, cv)] := by
  refine .inr ⟨q, 0, rfl, hs, (Array.getElem?_eq_some_iff.1 h).1, fun k c hk => ?_⟩
  match k, hk with
  | 0, hk =>
    simp at hk; subst hk
    refine ⟨_, kv_rel _ _ _ h1 h2, fun i v hi => ?_⟩
    match i, hi with
    | 0, hi => simp at hi; subst hi; simp only [Nat.zero_mul, Nat.add_zero]; rw [Lib.cell_of_heap h]; rfl
    | 1, hi => simp at hi; subst hi; simp only [Nat.zero_mul, Nat.zero_add]; rw [Lib.cell_of_heap h]; rfl
    | i + 2, hi => simp at hi
  | k + 1, hk => simp at hk
theorem SlAt.only {S : Nat → Prop} {w : World} {g o : Nat} {l : List KV} (h : SlAt rKV S w (some ⟨g, o, none⟩) l) : SlAt rKV (· = g) w (some ⟨g, o, none⟩) l := by
  rcases h with rfl | ⟨b, off, e, hs, hlt, h⟩
  · exact .inl rfl
  · injection e with e; injection e with e1 e2
    subst e1; subst e2
    exact .inr ⟨g, o, rfl, rfl, hlt, fun k c hk => by obtain ⟨cs, h1, h2⟩ := h k c hk; exact ⟨cs, kv_flat _ _ _ _ _ _ h1, h2⟩⟩
theorem SlAt.drop2 {α : Type} {r : Lift.Rd α} {S : Nat → Prop} {w : World} {g o : Nat} {l : List α} (h : SlAt r S w (some ⟨g, o, none⟩) l) (k : Nat) : SlAt r S w (some ⟨g, o + k * r.n, none⟩) (l.drop k) := by
  rcases h with rfl | ⟨b, off, e, hs, hlt, h⟩
  · exact .inl (by simp)
  · injection e with e; injection e with e1 e2
    subst e1; subst e2
    refine .inr ⟨g, o + k * r.n, rfl, hs, hlt, fun j c hj => ?_⟩
    rw [List.getElem?_drop] at hj
    obtain ⟨cs, h1, h2⟩ := h (k + j) c hj
    exact ⟨cs, h1, by rw [Nat.add_assoc, ← Nat.add_mul]; exact h2⟩
set_option maxHeartbeats 8000000 in
set_option maxRecDepth 100000 in
theorem behind_any (ao bo : Option Addr) (cap cap2 : Nat) (l : List KV) (ws : List KW) (w : World) (hl : SlAt rKV (· < w.heap.size) w ao l) (hao : ao = none → cap = 0) (hw : SlAt rKw (· < w.heap.size) w bo ws) (hlen : l.length ≤ 1000) (hlw : ws.length ≤ 1000) :
    Calls Tryz.prog 12 #[.slice ao l.length cap, .slice bo ws.length cap2] w (RowPost rKV 72 (ws.foldl kdo l) w) := by
  obtain ⟨i0, hi, hz0, hz1, hz2⟩ := kv_info0
  have HI := Lib.hid hi; have HZ0 := Lib.hid hz0; have HZ1 := Lib.hid hz1; have HZ2 := Lib.hid hz2
  have mixed : Tryz.prog.follows .mixedOrders = true := by kernel_rfl
  clear hi hz0 hz1 hz2
  go_enter Tryz.func12, Tryz.ntmps12
  go_wp2_with (first | (at_builtin; refine wpList_pushAll rKV rfl _ _ 33 rfl w.heap.size 72 i0 _ 32 Tryz.underlying33 HI.out HZ0.out HZ1.out HZ2.out rfl (by decide) (fun _ => True) _ [] (by rfl) (own_made rKV _ w w.heap.size _ (Nat.le_refl _)) ao cap l rfl hao ((hl.below ((Below.refl _ _).alloc (Nat.le_refl _) _)).mono (fun b hb _ => ⟨trivial, fun e => by simp [Value.ownBlock] at e; omega⟩)) kv_ones (by unfold maxLen; simp; omega) (by simp; omega) (by simp) ?_; intro v2 w2 hO2 hK2 hw2))
  obtain ⟨g0, n0, c0, hv0⟩ : ∃ g n c, v2 = .slice (some ⟨g, 0, none⟩) n c := by
    obtain ⟨a2, c2, rfl⟩ := hO2.form
    obtain ⟨g, hg⟩ := hO2.block (by
      rcases hw2 with h | ⟨g, h, _⟩
      · rw [h]; simp [Value.ownBlock]
      · rw [h]; simp)
    exact ⟨g, _, _, by rw [hg]⟩
  have hBs : Below w.heap.size w w2 := ((Below.refl _ w).alloc (Nat.le_refl _) _).trans (hK2.below (by simp) (fun b hb => by simp [Value.ownBlock] at hb; omega))
  have HW := Lib.hid hw
  have HO2 := Lib.hid hO2
  clear hO2 hK2 hw2 hl hao hw
  subst hv0
  go_loopw [5, 6] (fun vm vi wr => ∃ (i g n c : Nat), i ≤ ws.length ∧ vi = .int .i64 i ∧ vm = .slice (some ⟨g, 0, none⟩) n c ∧ Hid (Lift.Own rKV (fun _ => True) wr w.heap.size 72 (.slice (some ⟨g, 0, none⟩) n c) ((ws.take i).foldl kdo l)) ∧ Hid (Below w.heap.size w wr)) (fun _ vi _ => ws.length - (intOf vi).toNat)
  case atStart => exact ⟨0, g0, n0, c0, Nat.zero_le _, rfl, rfl, Lib.hid (by simpa using HO2.out), Lib.hid hBs⟩
  case round =>
    obtain ⟨i, g, n, c, hi, rfl, rfl, HO, HB⟩ := hrel
    clear HO2 hBs
    have hfl := foldl_len l (ws.take i)
    by_cases hil : i < ws.length
    · obtain ⟨cw, hcw⟩ := some_at hil
      have HF := Lib.hid (foldl_take (M := l) hcw)
      have hML : ((ws.take i).foldl kdo l).length ≤ 2000 := by
        have := List.length_take_le i ws; omega
      clear hfl
      generalize (ws.take i).foldl kdo l = M at *
      obtain ⟨b, off, rfl, _, hlt, s1, s2, y0, y1, y2⟩ := kw_get (HW.out.old HB.out) hcw
      have hn : n = M.length := by
        obtain ⟨_, _, h⟩ := HO.out.form
        injection h
      subst hn
      have hil2 : (i : Int) < (ws.length : Int) := by omega
      obtain ⟨ck, cv, cg⟩ := cw
      simp only at y0 y1 y2 s1 s2
      have hcap := HO.out.cap
      have hcp : M.length ≤ c := hcap.1
      have hcm : c ≤ maxLen := hcap.2.1
      unfold maxLen at hcm
      clear hcap
      have HY := Lib.hid (And.intro y0 (And.intro y1 y2))
      have HBL := Lib.hid hlt
      obtain ⟨Wo, rfl⟩ : ∃ x : World, x = wr := ⟨_, rfl⟩
      go_wp2_with fail
      go_loopw [7] (fun v wx => ∃ k : Nat, k ≤ M.length ∧ v = .int .i64 k ∧ Hid (∀ (j : Nat) (p : KV), j < k → M[j]? = some p → bl p.1 < bl ck) ∧ Hid (Below Wo.heap.size Wo wx)) (fun v _ => M.length - (intOf v).toNat)
      case atStart => exact ⟨0, Nat.zero_le _, rfl, Lib.hid (fun j p hj => by omega), Lib.hid (Below.refl _ _)⟩
      case round =>
        obtain ⟨k, hk, rfl, HL, HBx⟩ := hrel
        by_cases hkl : k < M.length
        · obtain ⟨p, hp⟩ := some_at hkl
          have hOx := HO.out.below HBx.out
          obtain ⟨b3, o3, e3, _, hlt3, p1, p2, x0, x1⟩ := kv_get hOx.here hp
          cases e3
          have x2 := (HBx.out.cell (p := ⟨b, off + i * 3, none⟩) hlt).trans y0
          have hkl2 : (k : Int) < (M.length : Int) := by omega
          have hle := less_bl p.1 ck
          obtain ⟨f, hf⟩ : ∃ f, decide (bl p.1 < bl ck) = f := ⟨_, rfl⟩
          rw [hf] at hle
          simp only [Nat.zero_add] at x0
          have HP := Lib.hid hp
          clear hOx hp x1 y0 y1 y2
          cases f with
          | true =>
            go_wp2_with fail
            (refine wp_region_quiet_lit (by kernel_rfl) (by kernel_rfl) ?_; (repeat (any_goals (first | go_big_quiet_step (fail) | quiet_step (fail) | (refine wpQuiet_step (fun K hK => ?_); go_simp; split <;> (refine hK _ ?_; clear hK K))))); all_goals (refine wpQuiet_nil ?_; intro _ hw'; obtain ⟨nq, hw''⟩ := hw'; subst hw''))
            go_wp2_with fail
            go_roundw
            case measure => simp [intOf]; omega
            case rel => exact ⟨k + 1, by omega, by go_num, Lib.hid (fun j q hj hq => by
              by_cases hjk : j < k
              · exact HL.out j q hjk hq
              · obtain rfl : j = k := by omega
                rw [HP.out] at hq; cases hq
                exact of_decide_eq_true hf), Lib.hid (below_drewN HBx.out _)⟩
          | false =>
            go_wp2_with fail
            (refine wp_region_quiet_lit (by kernel_rfl) (by kernel_rfl) ?_; (repeat (any_goals (first | go_big_quiet_step (fail) | quiet_step (fail) | (refine wpQuiet_step (fun K hK => ?_); go_simp; split <;> (refine hK _ ?_; clear hK K))))); all_goals (refine wpQuiet_nil ?_; intro _ hw'; obtain ⟨nq, hw''⟩ := hw'; subst hw''))
            have HNL : Hid (∀ p, M[k]? = some p → ¬ bl p.1 < bl ck) := Lib.hid (fun q hq => by rw [HP.out] at hq; cases hq; exact of_decide_eq_false hf)
            clear x0 x2 hle hf
            obtain ⟨W5, hW5⟩ : ∃ x, wr.drewN nq = x := ⟨_, rfl⟩
            have HB5 := Lib.hid (show Below Wo.heap.size Wo W5 by rw [← hW5]; exact below_drewN HBx.out _)
            rw [hW5]
            have HC := Lib.hid (kdo_cut (ck, cv, cg) k M hk HL.out HNL.out)
            have HO5 := Lib.hid (HO.out.below HB5.out)
            obtain ⟨D, hD⟩ : ∃ D, M.drop k = D := ⟨_, rfl⟩
            have hDl : D.length = M.length - k := by rw [← hD, List.length_drop]
            rw [hD] at HC
            have HS5 := Lib.hid (show SlAt rKV (· < W5.heap.size) W5 (some ⟨g, if c = k then 0 else k * 2, none⟩) D by
              by_cases hck : c = k
              · exact .inl (List.eq_nil_of_length_eq_zero (by omega))
              · rw [if_neg hck, ← hD]; have := SlAt.drop2 HO5.out.here k; rwa [Nat.zero_add] at this)
            have hgW : g < W5.heap.size := (HO5.out.lt g rfl).2
            have hwW : w.heap.size ≤ W5.heap.size := by have := HB5.out.size; have := HB.out.size; omega
            clear hW5 hD HL HNL
            go_wp2_with (first | (at_builtin; refine wpList_pushAll rKV rfl _ _ 33 rfl w.heap.size 72 i0 _ 32 Tryz.underlying33 HI.out HZ0.out HZ1.out HZ2.out rfl (by decide) (fun _ => True) _ [] (by rfl) (own_made rKV _ W5 w.heap.size _ hwW) (some ⟨g, if c = k then 0 else k * 2, none⟩) (c - k) D (by rw [hDl]; first | (simp [Act.eval]; done) | (simp [Act.eval]; omega) | (simp [Act.eval, hck]; done)) (fun h => nomatch h) ((HS5.out.below ((Below.refl _ _).alloc (Nat.le_refl _) _)).mono (fun b hb _ => ⟨trivial, fun e => by simp [Value.ownBlock] at e; omega⟩)) kv_ones (by unfold maxLen; simp; omega) (by simp; omega) (by simp; omega) ?_; intro v3 w3 hO3 hK3 hw3))
            have HB3 := Lib.hid (show Below W5.heap.size W5 w3 from ((Below.refl _ W5).alloc (Nat.le_refl _) _).trans (hK3.below (by simp) (fun b hb => by simp [Value.ownBlock] at hb; omega)))
            obtain ⟨g3, n3, c3, hv3, hg3⟩ : ∃ g n c, v3 = .slice (some ⟨g, 0, none⟩) n c ∧ W5.heap.size ≤ g := by
              obtain ⟨a3, c3, rfl⟩ := hO3.form
              obtain ⟨q, hq⟩ := hO3.block (by
                rcases hw3 with h | ⟨q, h, _⟩
                · rw [h]; simp [Value.ownBlock]
                · rw [h]; simp)
              subst hq
              refine ⟨q, _, _, rfl, ?_⟩
              rcases hw3 with h | ⟨q2, h, hq2⟩
              · simp [Value.ownBlock] at h; omega
              · simp [Value.ownBlock] at h; simp at hq2; omega
            subst hv3
            rw [List.nil_append] at hO3
            have hn3 : n3 = D.length := by
              obtain ⟨_, _, h⟩ := hO3.form
              injection h
            subst hn3
            have HO3 := Lib.hid hO3
            have hcp3 := hO3.cap.1
            have hcm3 := hO3.cap.2.1
            unfold maxLen at hcm3
            clear hO3 hK3 hw3
            cases D with
            | nil => simp at hDl; omega
            | cons q r =>
              obtain ⟨b3, o3, e3, _, _, _, _, x0, _⟩ := kv_get HO3.out.here (k := 0) (c := q) rfl
              cases e3
              simp only [Nat.zero_mul, Nat.add_zero] at x0
              have x2 := ((chain HB5.out HB3.out).cell (p := ⟨b, off + i * 3, none⟩) HBL.out).trans HY.out.1
              have hbe := beq_bytes q.1 ck
              simp only [List.length_cons] at hcp3 hDl
              have hrl : r.length + 1 ≤ 2000 := by omega
              have hll : (q :: r).length ≤ 2000 := hrl
              clear hDl
              obtain ⟨qk, qv⟩ := q
              simp only at x0 hbe
              by_cases hqe : qk = ck
              · have hqe' := hqe.symm
                clear hqe hbe
                subst hqe'
                by_cases hc31 : c3 = 1
                · subst hc31
                  have hr0 : r = [] := List.eq_nil_of_length_eq_zero (by omega)
                  subst hr0
                  clear hll hrl hcp3
                  go_wp2_with fail
                  (refine wp_region_quiet_lit (by kernel_rfl) (by kernel_rfl) ?_; (repeat (any_goals (first | go_big_quiet_step (fail) | quiet_step (fail) | (refine wpQuiet_step (fun K hK => ?_); go_simp; split <;> (refine hK _ ?_; clear hK K))))); all_goals (refine wpQuiet_nil ?_; intro _ hw'; obtain ⟨nq, hw''⟩ := hw'; subst hw''))
                  go_upto_region 11 with fail
                  obtain ⟨W6, hW6⟩ : ∃ x, w3.drewN nq = x := ⟨_, rfl⟩
                  have HB6 := Lib.hid (show Below w3.heap.size w3 W6 by rw [← hW6]; exact below_drewN (Below.refl _ _) _)
                  rw [hW6]
                  have hBo6 := chain HB5.out (chain HB3.out HB6.out)
                  have HTk := Lib.hid ((HO.out.below hBo6).take hk)
                  have HSR := Lib.hid ((SlAt.only ((show SlAt rKV (fun _ => True) w3 (some ⟨g3, 0, none⟩) [] from .inl rfl))).below HB6.out)
                  have y2' := (hBo6.cell (p := ⟨b, off + i * 3 + 2, none⟩) HBL.out).trans HY.out.2.2
                  have hgW6 : g < W6.heap.size := by have := HB3.out.size; have := HB6.out.size; omega
                  have hg3W6 : g3 < W6.heap.size := by have := (HO3.out.lt g3 rfl).2; have := HB6.out.size; omega
                  have hwW6 : w.heap.size ≤ W6.heap.size := by have := HB3.out.size; have := HB6.out.size; omega
                  have hgb : w.heap.size ≤ g := (HO.out.lt g rfl).1
                  have hb6lt : b < W6.heap.size := by have := hBo6.size; have := HBL.out; omega
                  clear hW6
                  cases cg with
                  | true =>
                    have HKC := Lib.hid (show kdo M (ck, cv, true) = M.take k ++ [] by rw [HC.out, show kcut ((ck, qv) :: []) (ck, cv, true) = [] from (by simp [kcut])]; simp [wput])
                    go_wp2_with (first | (at_builtin; refine wpList_pushAll rKV rfl _ _ 33 rfl w.heap.size 72 i0 _ 32 Tryz.underlying33 HI.out HZ0.out HZ1.out HZ2.out rfl (by decide) (fun _ => True) _ (M.take k) (by rfl) HTk.out (some ⟨g3, 0, none⟩) (0) [] (by first | rfl | (simp [Act.eval]; done)) (fun h => nomatch h) (HSR.out.mono (fun b hb _ => ⟨trivial, fun e => by simp [Value.ownBlock] at e; omega⟩)) kv_ones (by have := List.length_take_le k M; have hnl : ([] : List KV).length = 0 := rfl; unfold maxLen; omega) (by have := List.length_take_le k M; have hnl : ([] : List KV).length = 0 := rfl; omega) hwW6 ?_; intro v7 w7 hO7 hK7 hw7))
                    obtain ⟨g7, n7, c7, rfl⟩ : ∃ g n c, v7 = .slice (some ⟨g, 0, none⟩) n c := by
                      obtain ⟨a7, c7, rfl⟩ := hO7.form
                      obtain ⟨q, hq⟩ := hO7.block (by
                        rcases hw7 with h | ⟨q, h, _⟩
                        · rw [h]; simp [Value.ownBlock]
                        · rw [h]; simp)
                      exact ⟨q, _, _, by rw [hq]⟩
                    have HO7 := Lib.hid hO7
                    have HB7 := Lib.hid ((HB.out.trans (hBo6.mono HB.out.size)).trans (hK7.below (B := w.heap.size) hwW6 (fun b hb => by simp [Value.ownBlock] at hb; omega)))
                    clear hO7 hK7 hw7
                    go_wp2_with fail
                    go_roundw
                    case measure => simp [intOf]; omega
                    case rel => exact ⟨i + 1, g7, _, _, by omega, by go_num, rfl, Lib.hid (by rw [HF.out, HKC.out]; exact HO7.out), HB7⟩
                  | false =>
                    have HKC := Lib.hid (show kdo M (ck, cv, false) = (M.take k ++ [(ck, cv)]) ++ [] by rw [HC.out, show kcut ((ck, qv) :: []) (ck, cv, false) = [] from (by simp [kcut])]; simp [wput])
                    have y0' := (hBo6.cell (p := ⟨b, off + i * 3, none⟩) HBL.out).trans HY.out.1
                    have y1' := (hBo6.cell (p := ⟨b, off + i * 3 + 1, none⟩) HBL.out).trans HY.out.2.1
                    go_upto_region 13 with fail
                    have HY6 := Lib.hid (fun W (hb : Below W6.heap.size W6 W) => show W.cell? ⟨b, off + i * 3, none⟩ = some (.string ck) ∧ W.cell? ⟨b, off + i * 3 + 1, none⟩ = some (.string cv) from ⟨(hb.cell (p := ⟨b, off + i * 3, none⟩) hb6lt).trans y0', (hb.cell (p := ⟨b, off + i * 3 + 1, none⟩) hb6lt).trans y1'⟩)
                    refine wp_region_eachT (by kernel_rfl) 13 (by decide) (by kernel_rfl) (by kernel_rfl) (by kernel_rfl) (by kernel_rfl) (fun W => Below W6.heap.size W6 W) (fun W W' => Below W.heap.size W W') (RB g k c b off i ws.length cap2 W6.heap.size ck cv) (fun i => 68 + i) ?hd ?inj ?hord ?mono ?hS0 ?hop ?hfin
                    case inj => intro i j _ _ h; omega
                    case hS0 => exact (Below.refl _ _).drew
                    case hd =>
                      intro i o hi ho
                      rcases lt13 hi with rfl | rfl | rfl | rfl | rfl | rfl | rfl | rfl | rfl | rfl | rfl | rfl | rfl
                      all_goals (cases ho; exact ⟨rfl, rfl, by simp⟩)
                    case hord =>
                      intro i o ho e he
                      have hi : i < 15 := (List.getElem?_eq_some_iff.1 ho).1
                      rcases lt15 hi with rfl | rfl | rfl | rfl | rfl | rfl | rfl | rfl | rfl | rfl | rfl | rfl | rfl | rfl | rfl
                      all_goals (cases ho; exact all_before (by kernel_rfl) e he)
                    case mono =>
                      intro i v W W' h hE
                      by_cases hi : i < 13
                      · rcases lt13 hi with rfl | rfl | rfl | rfl | rfl | rfl | rfl | rfl | rfl | rfl | rfl | rfl | rfl
                        all_goals first
                          | exact h
                          | (obtain ⟨q, e1, e2, e3⟩ := h; exact ⟨q, e1, e2, (hE.block q (Array.getElem?_eq_some_iff.1 e3).1).trans e3⟩)
                      · exfalso
                        obtain ⟨j, rfl⟩ : ∃ j, i = j + 13 := ⟨i - 13, by omega⟩
                        exact h
                    case hop =>
                      intro i' o' hi ho a W hS hr he Kx hK
                      have h1 : a.tmps[1]?.getD undef = .slice (some ⟨b, off, none⟩) ws.length cap2 := by have := hr 1 (by intro j hj; show 68 + j ≠ 1; omega); simpa using this
                      have h5 : a.tmps[5]?.getD undef = .slice (some ⟨g, 0, none⟩) k c := by have := hr 5 (by intro j hj; show 68 + j ≠ 5; omega); simpa using this
                      have h6 : a.tmps[6]?.getD undef = .int .i64 i := by have := hr 6 (by intro j hj; show 68 + j ≠ 6; omega); simpa using this
                      obtain ⟨cc0, cc1⟩ := HY6.out W hS
                      clear hr
                      rcases lt13 hi with rfl | rfl | rfl | rfl | rfl | rfl | rfl | rfl | rfl | rfl | rfl | rfl | rfl
                      all_goals (simp only [List.getElem?_cons_succ, List.getElem?_cons_zero, Option.some.injEq] at ho; subst ho; simp [RB, Region.binds] at he)
                      all_goals (try (simp [go_sem, Oper.wp, execOp, Act.eval, he, h1, h5, h6, cc0, cc1, hil, hil2]; exact hK _ _ hS (Below.refl _ _) rfl))
                      all_goals
                        simp [go_sem, Oper.wp, execOp, Act.eval, he]
                        exact hK _ _ (hS.alloc hS.size _) ((Below.refl _ _).alloc (Nat.le_refl _) _) ⟨W.heap.size, rfl, hS.size, heap_alloc_new _ _⟩
                    case hfin =>
                      intro a W hS hdf htm hr hR
                      have hm := act_mid 68 13 rfl (by simp) htm hdf (fun t ht => hr t (fun j hj => by show 68 + j ≠ t; omega))
                      obtain ⟨x, hx⟩ : ∃ x : Nat → Value, (fun i => a.tmps.getD (68 + i) undef) = x := ⟨_, rfl⟩
                      rw [hx] at hm
                      have r0 : x 0 = .slice (some ⟨g, 0, none⟩) k c := by rw [← hx]; exact hR 0 (by omega)
                      obtain ⟨q, e1, e2, e3⟩ := hR 12 (by omega)
                      have r12 : x 12 = .slice (some ⟨q, 0, none⟩) 1 1 := by rw [← hx]; exact e1
                      clear e1 hx hR hr htm hdf
                      subst hm
                      rw [show List.range 13 = [0, 1, 2, 3, 4, 5, 6, 7, 8, 9, 10, 11, 12] from rfl]
                      simp only [List.take_succ_cons, List.take_zero, List.drop_succ_cons, List.drop_zero, List.cons_append, List.nil_append, List.map_cons, List.map_nil, r0, r12]
                      clear r0 r12
                      have hSz := hS.size
                      refine wpList_pushAll rKV rfl _ _ 33 rfl w.heap.size 72 i0 _ 32 Tryz.underlying33 HI.out HZ0.out HZ1.out HZ2.out rfl (by decide) (fun _ => True) (.slice (some ⟨g, 0, none⟩) k c) (M.take k) rfl (HTk.out.below hS) (some ⟨q, 0, none⟩) 1 [(ck, cv)] rfl (fun h => nomatch h) (sl_pair e3 ⟨trivial, fun e => by simp [Value.ownBlock] at e; omega⟩ s1 s2) kv_ones (by have := List.length_take_le k M; unfold maxLen; simp; omega) (by have := List.length_take_le k M; simp; omega) (by omega) ?_
                      intro v8 w8 hO8 hK8 hw8
                      have hg8 : ∃ q8 n c, v8 = .slice (some ⟨q8, 0, none⟩) n c ∧ q8 ≠ g3 ∧ w.heap.size ≤ q8 := by
                        obtain ⟨a8, c8, rfl⟩ := hO8.form
                        obtain ⟨q8, hq8⟩ := hO8.block (by
                          rcases hw8 with h | ⟨q, h, _⟩
                          · rw [h]; simp [Value.ownBlock]
                          · rw [h]; simp)
                        subst hq8
                        refine ⟨q8, _, _, rfl, ?_, (hO8.lt q8 rfl).1⟩
                        rcases hw8 with h | ⟨q2, h, hq2⟩
                        · simp [Value.ownBlock] at h; omega
                        · simp [Value.ownBlock] at h; omega
                      obtain ⟨g8, n8, c8, hv8, hne8, hge8⟩ := hg8
                      subst hv8
                      have hz8 := hK8.size
                      have HS8 := Lib.hid ((HSR.out.below hS).kept hK8 (fun b hb _ e => by simp [Value.ownBlock] at e; omega))
                      have HO8 := Lib.hid hO8
                      have HB8 := Lib.hid (((HB.out.trans (hBo6.mono HB.out.size)).trans (hS.mono hwW6)).trans (hK8.below (B := w.heap.size) (by omega) (fun b hb => by simp [Value.ownBlock] at hb; omega)))
                      have hl8 : (M.take k ++ [(ck, cv)]).length ≤ 2001 := by have := List.length_take_le k M; simp; omega
                      clear hO8 hK8 hw8 e3
                      go_wp2_with (first | (at_builtin; refine wpList_pushAll rKV rfl _ _ 33 rfl w.heap.size 72 i0 _ 32 Tryz.underlying33 HI.out HZ0.out HZ1.out HZ2.out rfl (by decide) (fun _ => True) _ (M.take k ++ [(ck, cv)]) (by rfl) HO8.out (some ⟨g3, 0, none⟩) (0) [] (by first | rfl | (simp [Act.eval]; done)) (fun h => nomatch h) (HS8.out.mono (fun b hb _ => ⟨trivial, fun e => by simp [Value.ownBlock] at e; omega⟩)) kv_ones (by have hnl : ([] : List KV).length = 0 := rfl; unfold maxLen; omega) (by have hnl : ([] : List KV).length = 0 := rfl; omega) (by omega) ?_; intro v7 w7 hO7 hK7 hw7))
                      obtain ⟨g7, n7, c7, rfl⟩ : ∃ g n c, v7 = .slice (some ⟨g, 0, none⟩) n c := by
                        obtain ⟨a7, c7, rfl⟩ := hO7.form
                        obtain ⟨q, hq⟩ := hO7.block (by
                          rcases hw7 with h | ⟨q, h, _⟩
                          · rw [h]; simp [Value.ownBlock]
                          · rw [h]; simp)
                        exact ⟨q, _, _, by rw [hq]⟩
                      have HO7 := Lib.hid hO7
                      have HB7 := Lib.hid (HB8.out.trans (hK7.below (B := w.heap.size) (by omega) (fun b hb => by simp [Value.ownBlock] at hb; omega)))
                      clear hO7 hK7 hw7
                      go_wp2_with fail
                      go_roundw
                      case measure => simp [intOf]; omega
                      case rel => exact ⟨i + 1, g7, _, _, by omega, by go_num, rfl, Lib.hid (by rw [HF.out, HKC.out]; exact HO7.out), HB7⟩
                · go_wp2_with fail
                  (refine wp_region_quiet_lit (by kernel_rfl) (by kernel_rfl) ?_; (repeat (any_goals (first | go_big_quiet_step (fail) | quiet_step (fail) | (refine wpQuiet_step (fun K hK => ?_); go_simp; split <;> (refine hK _ ?_; clear hK K))))); all_goals (refine wpQuiet_nil ?_; intro _ hw'; obtain ⟨nq, hw''⟩ := hw'; subst hw''))
                  go_upto_region 11 with fail
                  obtain ⟨W6, hW6⟩ : ∃ x, w3.drewN nq = x := ⟨_, rfl⟩
                  have HB6 := Lib.hid (show Below w3.heap.size w3 W6 by rw [← hW6]; exact below_drewN (Below.refl _ _) _)
                  rw [hW6]
                  have hBo6 := chain HB5.out (chain HB3.out HB6.out)
                  have HTk := Lib.hid ((HO.out.below hBo6).take hk)
                  have HSR := Lib.hid ((SlAt.only ((show SlAt rKV _ w3 (some ⟨g3, 2, none⟩) r from SlAt.drop2 HO3.out.here 1))).below HB6.out)
                  have y2' := (hBo6.cell (p := ⟨b, off + i * 3 + 2, none⟩) HBL.out).trans HY.out.2.2
                  have hgW6 : g < W6.heap.size := by have := HB3.out.size; have := HB6.out.size; omega
                  have hg3W6 : g3 < W6.heap.size := by have := (HO3.out.lt g3 rfl).2; have := HB6.out.size; omega
                  have hwW6 : w.heap.size ≤ W6.heap.size := by have := HB3.out.size; have := HB6.out.size; omega
                  have hgb : w.heap.size ≤ g := (HO.out.lt g rfl).1
                  have hb6lt : b < W6.heap.size := by have := hBo6.size; have := HBL.out; omega
                  clear hW6
                  cases cg with
                  | true =>
                    have HKC := Lib.hid (show kdo M (ck, cv, true) = M.take k ++ r by rw [HC.out, show kcut ((ck, qv) :: r) (ck, cv, true) = r from (by simp [kcut])]; simp [wput])
                    go_wp2_with (first | (at_builtin; refine wpList_pushAll rKV rfl _ _ 33 rfl w.heap.size 72 i0 _ 32 Tryz.underlying33 HI.out HZ0.out HZ1.out HZ2.out rfl (by decide) (fun _ => True) _ (M.take k) (by rfl) HTk.out (some ⟨g3, 2, none⟩) (c3 - 1) r (by first | rfl | (simp [Act.eval]; done)) (fun h => nomatch h) (HSR.out.mono (fun b hb _ => ⟨trivial, fun e => by simp [Value.ownBlock] at e; omega⟩)) kv_ones (by have := List.length_take_le k M; have hnl : ([] : List KV).length = 0 := rfl; unfold maxLen; omega) (by have := List.length_take_le k M; have hnl : ([] : List KV).length = 0 := rfl; omega) hwW6 ?_; intro v7 w7 hO7 hK7 hw7))
                    obtain ⟨g7, n7, c7, rfl⟩ : ∃ g n c, v7 = .slice (some ⟨g, 0, none⟩) n c := by
                      obtain ⟨a7, c7, rfl⟩ := hO7.form
                      obtain ⟨q, hq⟩ := hO7.block (by
                        rcases hw7 with h | ⟨q, h, _⟩
                        · rw [h]; simp [Value.ownBlock]
                        · rw [h]; simp)
                      exact ⟨q, _, _, by rw [hq]⟩
                    have HO7 := Lib.hid hO7
                    have HB7 := Lib.hid ((HB.out.trans (hBo6.mono HB.out.size)).trans (hK7.below (B := w.heap.size) hwW6 (fun b hb => by simp [Value.ownBlock] at hb; omega)))
                    clear hO7 hK7 hw7
                    go_wp2_with fail
                    go_roundw
                    case measure => simp [intOf]; omega
                    case rel => exact ⟨i + 1, g7, _, _, by omega, by go_num, rfl, Lib.hid (by rw [HF.out, HKC.out]; exact HO7.out), HB7⟩
                  | false =>
                    have HKC := Lib.hid (show kdo M (ck, cv, false) = (M.take k ++ [(ck, cv)]) ++ r by rw [HC.out, show kcut ((ck, qv) :: r) (ck, cv, false) = r from (by simp [kcut])]; simp [wput])
                    have y0' := (hBo6.cell (p := ⟨b, off + i * 3, none⟩) HBL.out).trans HY.out.1
                    have y1' := (hBo6.cell (p := ⟨b, off + i * 3 + 1, none⟩) HBL.out).trans HY.out.2.1
                    go_upto_region 13 with fail
                    have HY6 := Lib.hid (fun W (hb : Below W6.heap.size W6 W) => show W.cell? ⟨b, off + i * 3, none⟩ = some (.string ck) ∧ W.cell? ⟨b, off + i * 3 + 1, none⟩ = some (.string cv) from ⟨(hb.cell (p := ⟨b, off + i * 3, none⟩) hb6lt).trans y0', (hb.cell (p := ⟨b, off + i * 3 + 1, none⟩) hb6lt).trans y1'⟩)
                    refine wp_region_eachT (by kernel_rfl) 13 (by decide) (by kernel_rfl) (by kernel_rfl) (by kernel_rfl) (by kernel_rfl) (fun W => Below W6.heap.size W6 W) (fun W W' => Below W.heap.size W W') (RB g k c b off i ws.length cap2 W6.heap.size ck cv) (fun i => 68 + i) ?hd ?inj ?hord ?mono ?hS0 ?hop ?hfin
                    case inj => intro i j _ _ h; omega
                    case hS0 => exact (Below.refl _ _).drew
                    case hd =>
                      intro i o hi ho
                      rcases lt13 hi with rfl | rfl | rfl | rfl | rfl | rfl | rfl | rfl | rfl | rfl | rfl | rfl | rfl
                      all_goals (cases ho; exact ⟨rfl, rfl, by simp⟩)
                    case hord =>
                      intro i o ho e he
                      have hi : i < 15 := (List.getElem?_eq_some_iff.1 ho).1
                      rcases lt15 hi with rfl | rfl | rfl | rfl | rfl | rfl | rfl | rfl | rfl | rfl | rfl | rfl | rfl | rfl | rfl
                      all_goals (cases ho; exact all_before (by kernel_rfl) e he)
                    case mono =>
                      intro i v W W' h hE
                      by_cases hi : i < 13
                      · rcases lt13 hi with rfl | rfl | rfl | rfl | rfl | rfl | rfl | rfl | rfl | rfl | rfl | rfl | rfl
                        all_goals first
                          | exact h
                          | (obtain ⟨q, e1, e2, e3⟩ := h; exact ⟨q, e1, e2, (hE.block q (Array.getElem?_eq_some_iff.1 e3).1).trans e3⟩)
                      · exfalso
                        obtain ⟨j, rfl⟩ : ∃ j, i = j + 13 := ⟨i - 13, by omega⟩
                        exact h
                    case hop =>
                      intro i' o' hi ho a W hS hr he Kx hK
                      have h1 : a.tmps[1]?.getD undef = .slice (some ⟨b, off, none⟩) ws.length cap2 := by have := hr 1 (by intro j hj; show 68 + j ≠ 1; omega); simpa using this
                      have h5 : a.tmps[5]?.getD undef = .slice (some ⟨g, 0, none⟩) k c := by have := hr 5 (by intro j hj; show 68 + j ≠ 5; omega); simpa using this
                      have h6 : a.tmps[6]?.getD undef = .int .i64 i := by have := hr 6 (by intro j hj; show 68 + j ≠ 6; omega); simpa using this
                      obtain ⟨cc0, cc1⟩ := HY6.out W hS
                      clear hr
                      rcases lt13 hi with rfl | rfl | rfl | rfl | rfl | rfl | rfl | rfl | rfl | rfl | rfl | rfl | rfl
                      all_goals (simp only [List.getElem?_cons_succ, List.getElem?_cons_zero, Option.some.injEq] at ho; subst ho; simp [RB, Region.binds] at he)
                      all_goals (try (simp [go_sem, Oper.wp, execOp, Act.eval, he, h1, h5, h6, cc0, cc1, hil, hil2]; exact hK _ _ hS (Below.refl _ _) rfl))
                      all_goals
                        simp [go_sem, Oper.wp, execOp, Act.eval, he]
                        exact hK _ _ (hS.alloc hS.size _) ((Below.refl _ _).alloc (Nat.le_refl _) _) ⟨W.heap.size, rfl, hS.size, heap_alloc_new _ _⟩
                    case hfin =>
                      intro a W hS hdf htm hr hR
                      have hm := act_mid 68 13 rfl (by simp) htm hdf (fun t ht => hr t (fun j hj => by show 68 + j ≠ t; omega))
                      obtain ⟨x, hx⟩ : ∃ x : Nat → Value, (fun i => a.tmps.getD (68 + i) undef) = x := ⟨_, rfl⟩
                      rw [hx] at hm
                      have r0 : x 0 = .slice (some ⟨g, 0, none⟩) k c := by rw [← hx]; exact hR 0 (by omega)
                      obtain ⟨q, e1, e2, e3⟩ := hR 12 (by omega)
                      have r12 : x 12 = .slice (some ⟨q, 0, none⟩) 1 1 := by rw [← hx]; exact e1
                      clear e1 hx hR hr htm hdf
                      subst hm
                      rw [show List.range 13 = [0, 1, 2, 3, 4, 5, 6, 7, 8, 9, 10, 11, 12] from rfl]
                      simp only [List.take_succ_cons, List.take_zero, List.drop_succ_cons, List.drop_zero, List.cons_append, List.nil_append, List.map_cons, List.map_nil, r0, r12]
                      clear r0 r12
                      have hSz := hS.size
                      refine wpList_pushAll rKV rfl _ _ 33 rfl w.heap.size 72 i0 _ 32 Tryz.underlying33 HI.out HZ0.out HZ1.out HZ2.out rfl (by decide) (fun _ => True) (.slice (some ⟨g, 0, none⟩) k c) (M.take k) rfl (HTk.out.below hS) (some ⟨q, 0, none⟩) 1 [(ck, cv)] rfl (fun h => nomatch h) (sl_pair e3 ⟨trivial, fun e => by simp [Value.ownBlock] at e; omega⟩ s1 s2) kv_ones (by have := List.length_take_le k M; unfold maxLen; simp; omega) (by have := List.length_take_le k M; simp; omega) (by omega) ?_
                      intro v8 w8 hO8 hK8 hw8
                      have hg8 : ∃ q8 n c, v8 = .slice (some ⟨q8, 0, none⟩) n c ∧ q8 ≠ g3 ∧ w.heap.size ≤ q8 := by
                        obtain ⟨a8, c8, rfl⟩ := hO8.form
                        obtain ⟨q8, hq8⟩ := hO8.block (by
                          rcases hw8 with h | ⟨q, h, _⟩
                          · rw [h]; simp [Value.ownBlock]
                          · rw [h]; simp)
                        subst hq8
                        refine ⟨q8, _, _, rfl, ?_, (hO8.lt q8 rfl).1⟩
                        rcases hw8 with h | ⟨q2, h, hq2⟩
                        · simp [Value.ownBlock] at h; omega
                        · simp [Value.ownBlock] at h; omega
                      obtain ⟨g8, n8, c8, hv8, hne8, hge8⟩ := hg8
                      subst hv8
                      have hz8 := hK8.size
                      have HS8 := Lib.hid ((HSR.out.below hS).kept hK8 (fun b hb _ e => by simp [Value.ownBlock] at e; omega))
                      have HO8 := Lib.hid hO8
                      have HB8 := Lib.hid (((HB.out.trans (hBo6.mono HB.out.size)).trans (hS.mono hwW6)).trans (hK8.below (B := w.heap.size) (by omega) (fun b hb => by simp [Value.ownBlock] at hb; omega)))
                      have hl8 : (M.take k ++ [(ck, cv)]).length ≤ 2001 := by have := List.length_take_le k M; simp; omega
                      clear hO8 hK8 hw8 e3
                      go_wp2_with (first | (at_builtin; refine wpList_pushAll rKV rfl _ _ 33 rfl w.heap.size 72 i0 _ 32 Tryz.underlying33 HI.out HZ0.out HZ1.out HZ2.out rfl (by decide) (fun _ => True) _ (M.take k ++ [(ck, cv)]) (by rfl) HO8.out (some ⟨g3, 2, none⟩) (c3 - 1) r (by first | rfl | (simp [Act.eval]; done)) (fun h => nomatch h) (HS8.out.mono (fun b hb _ => ⟨trivial, fun e => by simp [Value.ownBlock] at e; omega⟩)) kv_ones (by have hnl : ([] : List KV).length = 0 := rfl; unfold maxLen; omega) (by have hnl : ([] : List KV).length = 0 := rfl; omega) (by omega) ?_; intro v7 w7 hO7 hK7 hw7))
                      obtain ⟨g7, n7, c7, rfl⟩ : ∃ g n c, v7 = .slice (some ⟨g, 0, none⟩) n c := by
                        obtain ⟨a7, c7, rfl⟩ := hO7.form
                        obtain ⟨q, hq⟩ := hO7.block (by
                          rcases hw7 with h | ⟨q, h, _⟩
                          · rw [h]; simp [Value.ownBlock]
                          · rw [h]; simp)
                        exact ⟨q, _, _, by rw [hq]⟩
                      have HO7 := Lib.hid hO7
                      have HB7 := Lib.hid (HB8.out.trans (hK7.below (B := w.heap.size) (by omega) (fun b hb => by simp [Value.ownBlock] at hb; omega)))
                      clear hO7 hK7 hw7
                      go_wp2_with fail
                      go_roundw
                      case measure => simp [intOf]; omega
                      case rel => exact ⟨i + 1, g7, _, _, by omega, by go_num, rfl, Lib.hid (by rw [HF.out, HKC.out]; exact HO7.out), HB7⟩
              · rw [decide_eq_false hqe] at hbe
                have hbe2 : ¬ qk.toList = ck.toList := fun e => by rw [e] at hbe; simp at hbe
                go_wp2_with fail
                (refine wp_region_quiet_lit (by kernel_rfl) (by kernel_rfl) ?_; (repeat (any_goals (first | go_big_quiet_step (fail) | quiet_step (fail) | (refine wpQuiet_step (fun K hK => ?_); go_simp; split <;> (refine hK _ ?_; clear hK K))))); all_goals (refine wpQuiet_nil ?_; intro _ hw'; obtain ⟨nq, hw''⟩ := hw'; subst hw''))
                go_upto_region 11 with fail
                obtain ⟨W6, hW6⟩ : ∃ x, w3.drewN nq = x := ⟨_, rfl⟩
                have HB6 := Lib.hid (show Below w3.heap.size w3 W6 by rw [← hW6]; exact below_drewN (Below.refl _ _) _)
                rw [hW6]
                have hBo6 := chain HB5.out (chain HB3.out HB6.out)
                have HTk := Lib.hid ((HO.out.below hBo6).take hk)
                have HSR := Lib.hid ((SlAt.only (HO3.out.here)).below HB6.out)
                have y2' := (hBo6.cell (p := ⟨b, off + i * 3 + 2, none⟩) HBL.out).trans HY.out.2.2
                have hgW6 : g < W6.heap.size := by have := HB3.out.size; have := HB6.out.size; omega
                have hg3W6 : g3 < W6.heap.size := by have := (HO3.out.lt g3 rfl).2; have := HB6.out.size; omega
                have hwW6 : w.heap.size ≤ W6.heap.size := by have := HB3.out.size; have := HB6.out.size; omega
                have hgb : w.heap.size ≤ g := (HO.out.lt g rfl).1
                have hb6lt : b < W6.heap.size := by have := hBo6.size; have := HBL.out; omega
                clear hW6
                cases cg with
                | true =>
                  have HKC := Lib.hid (show kdo M (ck, cv, true) = M.take k ++ ((qk, qv) :: r) by rw [HC.out, show kcut ((qk, qv) :: r) (ck, cv, true) = ((qk, qv) :: r) from (by simp [kcut, hqe])]; simp [wput])
                  go_wp2_with (first | (at_builtin; refine wpList_pushAll rKV rfl _ _ 33 rfl w.heap.size 72 i0 _ 32 Tryz.underlying33 HI.out HZ0.out HZ1.out HZ2.out rfl (by decide) (fun _ => True) _ (M.take k) (by rfl) HTk.out (some ⟨g3, 0, none⟩) (c3) ((qk, qv) :: r) (by first | rfl | (simp [Act.eval]; done)) (fun h => nomatch h) (HSR.out.mono (fun b hb _ => ⟨trivial, fun e => by simp [Value.ownBlock] at e; omega⟩)) kv_ones (by have := List.length_take_le k M; have hnl : ([] : List KV).length = 0 := rfl; unfold maxLen; omega) (by have := List.length_take_le k M; have hnl : ([] : List KV).length = 0 := rfl; omega) hwW6 ?_; intro v7 w7 hO7 hK7 hw7))
                  obtain ⟨g7, n7, c7, rfl⟩ : ∃ g n c, v7 = .slice (some ⟨g, 0, none⟩) n c := by
                    obtain ⟨a7, c7, rfl⟩ := hO7.form
                    obtain ⟨q, hq⟩ := hO7.block (by
                      rcases hw7 with h | ⟨q, h, _⟩
                      · rw [h]; simp [Value.ownBlock]
                      · rw [h]; simp)
                    exact ⟨q, _, _, by rw [hq]⟩
                  have HO7 := Lib.hid hO7
                  have HB7 := Lib.hid ((HB.out.trans (hBo6.mono HB.out.size)).trans (hK7.below (B := w.heap.size) hwW6 (fun b hb => by simp [Value.ownBlock] at hb; omega)))
                  clear hO7 hK7 hw7
                  go_wp2_with fail
                  go_roundw
                  case measure => simp [intOf]; omega
                  case rel => exact ⟨i + 1, g7, _, _, by omega, by go_num, rfl, Lib.hid (by rw [HF.out, HKC.out]; exact HO7.out), HB7⟩
                | false =>
                  have HKC := Lib.hid (show kdo M (ck, cv, false) = (M.take k ++ [(ck, cv)]) ++ ((qk, qv) :: r) by rw [HC.out, show kcut ((qk, qv) :: r) (ck, cv, false) = ((qk, qv) :: r) from (by simp [kcut, hqe])]; simp [wput])
                  have y0' := (hBo6.cell (p := ⟨b, off + i * 3, none⟩) HBL.out).trans HY.out.1
                  have y1' := (hBo6.cell (p := ⟨b, off + i * 3 + 1, none⟩) HBL.out).trans HY.out.2.1
                  go_upto_region 13 with fail
                  have HY6 := Lib.hid (fun W (hb : Below W6.heap.size W6 W) => show W.cell? ⟨b, off + i * 3, none⟩ = some (.string ck) ∧ W.cell? ⟨b, off + i * 3 + 1, none⟩ = some (.string cv) from ⟨(hb.cell (p := ⟨b, off + i * 3, none⟩) hb6lt).trans y0', (hb.cell (p := ⟨b, off + i * 3 + 1, none⟩) hb6lt).trans y1'⟩)
                  refine wp_region_eachT (by kernel_rfl) 13 (by decide) (by kernel_rfl) (by kernel_rfl) (by kernel_rfl) (by kernel_rfl) (fun W => Below W6.heap.size W6 W) (fun W W' => Below W.heap.size W W') (RB g k c b off i ws.length cap2 W6.heap.size ck cv) (fun i => 68 + i) ?hd ?inj ?hord ?mono ?hS0 ?hop ?hfin
                  case inj => intro i j _ _ h; omega
                  case hS0 => exact (Below.refl _ _).drew
                  case hd =>
                    intro i o hi ho
                    rcases lt13 hi with rfl | rfl | rfl | rfl | rfl | rfl | rfl | rfl | rfl | rfl | rfl | rfl | rfl
                    all_goals (cases ho; exact ⟨rfl, rfl, by simp⟩)
                  case hord =>
                    intro i o ho e he
                    have hi : i < 15 := (List.getElem?_eq_some_iff.1 ho).1
                    rcases lt15 hi with rfl | rfl | rfl | rfl | rfl | rfl | rfl | rfl | rfl | rfl | rfl | rfl | rfl | rfl | rfl
                    all_goals (cases ho; exact all_before (by kernel_rfl) e he)
                  case mono =>
                    intro i v W W' h hE
                    by_cases hi : i < 13
                    · rcases lt13 hi with rfl | rfl | rfl | rfl | rfl | rfl | rfl | rfl | rfl | rfl | rfl | rfl | rfl
                      all_goals first
                        | exact h
                        | (obtain ⟨q, e1, e2, e3⟩ := h; exact ⟨q, e1, e2, (hE.block q (Array.getElem?_eq_some_iff.1 e3).1).trans e3⟩)
                    · exfalso
                      obtain ⟨j, rfl⟩ : ∃ j, i = j + 13 := ⟨i - 13, by omega⟩
                      exact h
                  case hop =>
                    intro i' o' hi ho a W hS hr he Kx hK
                    have h1 : a.tmps[1]?.getD undef = .slice (some ⟨b, off, none⟩) ws.length cap2 := by have := hr 1 (by intro j hj; show 68 + j ≠ 1; omega); simpa using this
                    have h5 : a.tmps[5]?.getD undef = .slice (some ⟨g, 0, none⟩) k c := by have := hr 5 (by intro j hj; show 68 + j ≠ 5; omega); simpa using this
                    have h6 : a.tmps[6]?.getD undef = .int .i64 i := by have := hr 6 (by intro j hj; show 68 + j ≠ 6; omega); simpa using this
                    obtain ⟨cc0, cc1⟩ := HY6.out W hS
                    clear hr
                    rcases lt13 hi with rfl | rfl | rfl | rfl | rfl | rfl | rfl | rfl | rfl | rfl | rfl | rfl | rfl
                    all_goals (simp only [List.getElem?_cons_succ, List.getElem?_cons_zero, Option.some.injEq] at ho; subst ho; simp [RB, Region.binds] at he)
                    all_goals (try (simp [go_sem, Oper.wp, execOp, Act.eval, he, h1, h5, h6, cc0, cc1, hil, hil2]; exact hK _ _ hS (Below.refl _ _) rfl))
                    all_goals
                      simp [go_sem, Oper.wp, execOp, Act.eval, he]
                      exact hK _ _ (hS.alloc hS.size _) ((Below.refl _ _).alloc (Nat.le_refl _) _) ⟨W.heap.size, rfl, hS.size, heap_alloc_new _ _⟩
                  case hfin =>
                    intro a W hS hdf htm hr hR
                    have hm := act_mid 68 13 rfl (by simp) htm hdf (fun t ht => hr t (fun j hj => by show 68 + j ≠ t; omega))
                    obtain ⟨x, hx⟩ : ∃ x : Nat → Value, (fun i => a.tmps.getD (68 + i) undef) = x := ⟨_, rfl⟩
                    rw [hx] at hm
                    have r0 : x 0 = .slice (some ⟨g, 0, none⟩) k c := by rw [← hx]; exact hR 0 (by omega)
                    obtain ⟨q, e1, e2, e3⟩ := hR 12 (by omega)
                    have r12 : x 12 = .slice (some ⟨q, 0, none⟩) 1 1 := by rw [← hx]; exact e1
                    clear e1 hx hR hr htm hdf
                    subst hm
                    rw [show List.range 13 = [0, 1, 2, 3, 4, 5, 6, 7, 8, 9, 10, 11, 12] from rfl]
                    simp only [List.take_succ_cons, List.take_zero, List.drop_succ_cons, List.drop_zero, List.cons_append, List.nil_append, List.map_cons, List.map_nil, r0, r12]
                    clear r0 r12
                    have hSz := hS.size
                    refine wpList_pushAll rKV rfl _ _ 33 rfl w.heap.size 72 i0 _ 32 Tryz.underlying33 HI.out HZ0.out HZ1.out HZ2.out rfl (by decide) (fun _ => True) (.slice (some ⟨g, 0, none⟩) k c) (M.take k) rfl (HTk.out.below hS) (some ⟨q, 0, none⟩) 1 [(ck, cv)] rfl (fun h => nomatch h) (sl_pair e3 ⟨trivial, fun e => by simp [Value.ownBlock] at e; omega⟩ s1 s2) kv_ones (by have := List.length_take_le k M; unfold maxLen; simp; omega) (by have := List.length_take_le k M; simp; omega) (by omega) ?_
                    intro v8 w8 hO8 hK8 hw8
                    have hg8 : ∃ q8 n c, v8 = .slice (some ⟨q8, 0, none⟩) n c ∧ q8 ≠ g3 ∧ w.heap.size ≤ q8 := by
                      obtain ⟨a8, c8, rfl⟩ := hO8.form
                      obtain ⟨q8, hq8⟩ := hO8.block (by
                        rcases hw8 with h | ⟨q, h, _⟩
                        · rw [h]; simp [Value.ownBlock]
                        · rw [h]; simp)
                      subst hq8
                      refine ⟨q8, _, _, rfl, ?_, (hO8.lt q8 rfl).1⟩
                      rcases hw8 with h | ⟨q2, h, hq2⟩
                      · simp [Value.ownBlock] at h; omega
                      · simp [Value.ownBlock] at h; omega
                    obtain ⟨g8, n8, c8, hv8, hne8, hge8⟩ := hg8
                    subst hv8
                    have hz8 := hK8.size
                    have HS8 := Lib.hid ((HSR.out.below hS).kept hK8 (fun b hb _ e => by simp [Value.ownBlock] at e; omega))
                    have HO8 := Lib.hid hO8
                    have HB8 := Lib.hid (((HB.out.trans (hBo6.mono HB.out.size)).trans (hS.mono hwW6)).trans (hK8.below (B := w.heap.size) (by omega) (fun b hb => by simp [Value.ownBlock] at hb; omega)))
                    have hl8 : (M.take k ++ [(ck, cv)]).length ≤ 2001 := by have := List.length_take_le k M; simp; omega
                    clear hO8 hK8 hw8 e3
                    go_wp2_with (first | (at_builtin; refine wpList_pushAll rKV rfl _ _ 33 rfl w.heap.size 72 i0 _ 32 Tryz.underlying33 HI.out HZ0.out HZ1.out HZ2.out rfl (by decide) (fun _ => True) _ (M.take k ++ [(ck, cv)]) (by rfl) HO8.out (some ⟨g3, 0, none⟩) (c3) ((qk, qv) :: r) (by first | rfl | (simp [Act.eval]; done)) (fun h => nomatch h) (HS8.out.mono (fun b hb _ => ⟨trivial, fun e => by simp [Value.ownBlock] at e; omega⟩)) kv_ones (by have hnl : ([] : List KV).length = 0 := rfl; unfold maxLen; omega) (by have hnl : ([] : List KV).length = 0 := rfl; omega) (by omega) ?_; intro v7 w7 hO7 hK7 hw7))
                    obtain ⟨g7, n7, c7, rfl⟩ : ∃ g n c, v7 = .slice (some ⟨g, 0, none⟩) n c := by
                      obtain ⟨a7, c7, rfl⟩ := hO7.form
                      obtain ⟨q, hq⟩ := hO7.block (by
                        rcases hw7 with h | ⟨q, h, _⟩
                        · rw [h]; simp [Value.ownBlock]
                        · rw [h]; simp)
                      exact ⟨q, _, _, by rw [hq]⟩
                    have HO7 := Lib.hid hO7
                    have HB7 := Lib.hid (HB8.out.trans (hK7.below (B := w.heap.size) (by omega) (fun b hb => by simp [Value.ownBlock] at hb; omega)))
                    clear hO7 hK7 hw7
                    go_wp2_with fail
                    go_roundw
                    case measure => simp [intOf]; omega
                    case rel => exact ⟨i + 1, g7, _, _, by omega, by go_num, rfl, Lib.hid (by rw [HF.out, HKC.out]; exact HO7.out), HB7⟩

        · have HNL : Hid (∀ p, M[k]? = some p → ¬ bl p.1 < bl ck) := Lib.hid (fun q hq => by have := (List.getElem?_eq_some_iff.1 hq).1; omega)
          have hkl3 : ¬ (k : Int) < (M.length : Int) := by omega
          by_cases hck : c = k
          · subst hck
            go_wp2_with fail
            (refine wp_region_quiet_lit (by kernel_rfl) (by kernel_rfl) ?_; (repeat (any_goals (first | go_big_quiet_step (fail) | quiet_step (fail) | (refine wpQuiet_step (fun K hK => ?_); go_simp; split <;> (refine hK _ ?_; clear hK K))))); all_goals (refine wpQuiet_nil ?_; intro _ hw'; obtain ⟨nq, hw''⟩ := hw'; subst hw''))
            obtain ⟨W5, hW5⟩ : ∃ x, wr.drewN nq = x := ⟨_, rfl⟩
            have HB5 := Lib.hid (show Below Wo.heap.size Wo W5 by rw [← hW5]; exact below_drewN HBx.out _)
            rw [hW5]
            have HC := Lib.hid (kdo_cut (ck, cv, cg) c M hk HL.out HNL.out)
            have HO5 := Lib.hid (HO.out.below HB5.out)
            obtain ⟨D, hD⟩ : ∃ D, M.drop c = D := ⟨_, rfl⟩
            have hDl : D.length = M.length - c := by rw [← hD, List.length_drop]
            rw [hD] at HC
            have HS5 := Lib.hid (show SlAt rKV (· < W5.heap.size) W5 (some ⟨g, if c = c then 0 else c * 2, none⟩) D by
              by_cases hck : c = c
              · exact .inl (List.eq_nil_of_length_eq_zero (by omega))
              · rw [if_neg hck, ← hD]; have := SlAt.drop2 HO5.out.here c; rwa [Nat.zero_add] at this)
            have hgW : g < W5.heap.size := (HO5.out.lt g rfl).2
            have hwW : w.heap.size ≤ W5.heap.size := by have := HB5.out.size; have := HB.out.size; omega
            clear hW5 hD HL HNL
            go_wp2_with (first | (at_builtin; refine wpList_pushAll rKV rfl _ _ 33 rfl w.heap.size 72 i0 _ 32 Tryz.underlying33 HI.out HZ0.out HZ1.out HZ2.out rfl (by decide) (fun _ => True) _ [] (by rfl) (own_made rKV _ W5 w.heap.size _ hwW) (some ⟨g, if c = c then 0 else c * 2, none⟩) (c - c) D (by rw [hDl]; first | (simp [Act.eval]; done) | (simp [Act.eval]; omega) | (simp [Act.eval, hck]; done)) (fun h => nomatch h) ((HS5.out.below ((Below.refl _ _).alloc (Nat.le_refl _) _)).mono (fun b hb _ => ⟨trivial, fun e => by simp [Value.ownBlock] at e; omega⟩)) kv_ones (by unfold maxLen; simp; omega) (by simp; omega) (by simp; omega) ?_; intro v3 w3 hO3 hK3 hw3))
            have HB3 := Lib.hid (show Below W5.heap.size W5 w3 from ((Below.refl _ W5).alloc (Nat.le_refl _) _).trans (hK3.below (by simp) (fun b hb => by simp [Value.ownBlock] at hb; omega)))
            obtain ⟨g3, n3, c3, hv3, hg3⟩ : ∃ g n c, v3 = .slice (some ⟨g, 0, none⟩) n c ∧ W5.heap.size ≤ g := by
              obtain ⟨a3, c3, rfl⟩ := hO3.form
              obtain ⟨q, hq⟩ := hO3.block (by
                rcases hw3 with h | ⟨q, h, _⟩
                · rw [h]; simp [Value.ownBlock]
                · rw [h]; simp)
              subst hq
              refine ⟨q, _, _, rfl, ?_⟩
              rcases hw3 with h | ⟨q2, h, hq2⟩
              · simp [Value.ownBlock] at h; omega
              · simp [Value.ownBlock] at h; simp at hq2; omega
            subst hv3
            rw [List.nil_append] at hO3
            have hn3 : n3 = D.length := by
              obtain ⟨_, _, h⟩ := hO3.form
              injection h
            subst hn3
            have HO3 := Lib.hid hO3
            have hcp3 := hO3.cap.1
            have hcm3 := hO3.cap.2.1
            unfold maxLen at hcm3
            clear hO3 hK3 hw3
            have hD0 : D = [] := List.eq_nil_of_length_eq_zero (by omega)
            subst hD0
            simp only [List.length_nil]
            go_wp2_with fail
            (refine wp_region_quiet_lit (by kernel_rfl) (by kernel_rfl) ?_; (repeat (any_goals (first | go_big_quiet_step (fail) | quiet_step (fail) | (refine wpQuiet_step (fun K hK => ?_); go_simp; split <;> (refine hK _ ?_; clear hK K))))); all_goals (refine wpQuiet_nil ?_; intro _ hw'; obtain ⟨nq, hw''⟩ := hw'; subst hw''))
            go_upto_region 11 with fail
            obtain ⟨W6, hW6⟩ : ∃ x, w3.drewN nq = x := ⟨_, rfl⟩
            have HB6 := Lib.hid (show Below w3.heap.size w3 W6 by rw [← hW6]; exact below_drewN (Below.refl _ _) _)
            rw [hW6]
            have hBo6 := chain HB5.out (chain HB3.out HB6.out)
            have HTk := Lib.hid ((HO.out.below hBo6).take hk)
            have HSR := Lib.hid ((SlAt.only (HO3.out.here)).below HB6.out)
            have y2' := (hBo6.cell (p := ⟨b, off + i * 3 + 2, none⟩) HBL.out).trans HY.out.2.2
            have hgW6 : g < W6.heap.size := by have := HB3.out.size; have := HB6.out.size; omega
            have hg3W6 : g3 < W6.heap.size := by have := (HO3.out.lt g3 rfl).2; have := HB6.out.size; omega
            have hwW6 : w.heap.size ≤ W6.heap.size := by have := HB3.out.size; have := HB6.out.size; omega
            have hgb : w.heap.size ≤ g := (HO.out.lt g rfl).1
            have hb6lt : b < W6.heap.size := by have := hBo6.size; have := HBL.out; omega
            clear hW6
            cases cg with
            | true =>
              have HKC := Lib.hid (show kdo M (ck, cv, true) = M.take c ++ [] by rw [HC.out, show kcut [] (ck, cv, true) = [] from rfl]; simp [wput])
              go_wp2_with (first | (at_builtin; refine wpList_pushAll rKV rfl _ _ 33 rfl w.heap.size 72 i0 _ 32 Tryz.underlying33 HI.out HZ0.out HZ1.out HZ2.out rfl (by decide) (fun _ => True) _ (M.take c) (by rfl) HTk.out (some ⟨g3, 0, none⟩) (c3) [] (by first | rfl | (simp [Act.eval]; done)) (fun h => nomatch h) (HSR.out.mono (fun b hb _ => ⟨trivial, fun e => by simp [Value.ownBlock] at e; omega⟩)) kv_ones (by have := List.length_take_le c M; have hnl : ([] : List KV).length = 0 := rfl; unfold maxLen; omega) (by have := List.length_take_le c M; have hnl : ([] : List KV).length = 0 := rfl; omega) hwW6 ?_; intro v7 w7 hO7 hK7 hw7))
              obtain ⟨g7, n7, c7, rfl⟩ : ∃ g n c, v7 = .slice (some ⟨g, 0, none⟩) n c := by
                obtain ⟨a7, c7, rfl⟩ := hO7.form
                obtain ⟨q, hq⟩ := hO7.block (by
                  rcases hw7 with h | ⟨q, h, _⟩
                  · rw [h]; simp [Value.ownBlock]
                  · rw [h]; simp)
                exact ⟨q, _, _, by rw [hq]⟩
              have HO7 := Lib.hid hO7
              have HB7 := Lib.hid ((HB.out.trans (hBo6.mono HB.out.size)).trans (hK7.below (B := w.heap.size) hwW6 (fun b hb => by simp [Value.ownBlock] at hb; omega)))
              clear hO7 hK7 hw7
              go_wp2_with fail
              go_roundw
              case measure => simp [intOf]; omega
              case rel => exact ⟨i + 1, g7, _, _, by omega, by go_num, rfl, Lib.hid (by rw [HF.out, HKC.out]; exact HO7.out), HB7⟩
            | false =>
              have HKC := Lib.hid (show kdo M (ck, cv, false) = (M.take c ++ [(ck, cv)]) ++ [] by rw [HC.out, show kcut [] (ck, cv, false) = [] from rfl]; simp [wput])
              have y0' := (hBo6.cell (p := ⟨b, off + i * 3, none⟩) HBL.out).trans HY.out.1
              have y1' := (hBo6.cell (p := ⟨b, off + i * 3 + 1, none⟩) HBL.out).trans HY.out.2.1
              go_upto_region 13 with fail
              have HY6 := Lib.hid (fun W (hb : Below W6.heap.size W6 W) => show W.cell? ⟨b, off + i * 3, none⟩ = some (.string ck) ∧ W.cell? ⟨b, off + i * 3 + 1, none⟩ = some (.string cv) from ⟨(hb.cell (p := ⟨b, off + i * 3, none⟩) hb6lt).trans y0', (hb.cell (p := ⟨b, off + i * 3 + 1, none⟩) hb6lt).trans y1'⟩)
              refine wp_region_eachT (by kernel_rfl) 13 (by decide) (by kernel_rfl) (by kernel_rfl) (by kernel_rfl) (by kernel_rfl) (fun W => Below W6.heap.size W6 W) (fun W W' => Below W.heap.size W W') (RB g c c b off i ws.length cap2 W6.heap.size ck cv) (fun i => 68 + i) ?hd ?inj ?hord ?mono ?hS0 ?hop ?hfin
              case inj => intro i j _ _ h; omega
              case hS0 => exact (Below.refl _ _).drew
              case hd =>
                intro i o hi ho
                rcases lt13 hi with rfl | rfl | rfl | rfl | rfl | rfl | rfl | rfl | rfl | rfl | rfl | rfl | rfl
                all_goals (cases ho; exact ⟨rfl, rfl, by simp⟩)
              case hord =>
                intro i o ho e he
                have hi : i < 15 := (List.getElem?_eq_some_iff.1 ho).1
                rcases lt15 hi with rfl | rfl | rfl | rfl | rfl | rfl | rfl | rfl | rfl | rfl | rfl | rfl | rfl | rfl | rfl
                all_goals (cases ho; exact all_before (by kernel_rfl) e he)
              case mono =>
                intro i v W W' h hE
                by_cases hi : i < 13
                · rcases lt13 hi with rfl | rfl | rfl | rfl | rfl | rfl | rfl | rfl | rfl | rfl | rfl | rfl | rfl
                  all_goals first
                    | exact h
                    | (obtain ⟨q, e1, e2, e3⟩ := h; exact ⟨q, e1, e2, (hE.block q (Array.getElem?_eq_some_iff.1 e3).1).trans e3⟩)
                · exfalso
                  obtain ⟨j, rfl⟩ : ∃ j, i = j + 13 := ⟨i - 13, by omega⟩
                  exact h
              case hop =>
                intro i' o' hi ho a W hS hr he Kx hK
                have h1 : a.tmps[1]?.getD undef = .slice (some ⟨b, off, none⟩) ws.length cap2 := by have := hr 1 (by intro j hj; show 68 + j ≠ 1; omega); simpa using this
                have h5 : a.tmps[5]?.getD undef = .slice (some ⟨g, 0, none⟩) c c := by have := hr 5 (by intro j hj; show 68 + j ≠ 5; omega); simpa using this
                have h6 : a.tmps[6]?.getD undef = .int .i64 i := by have := hr 6 (by intro j hj; show 68 + j ≠ 6; omega); simpa using this
                obtain ⟨cc0, cc1⟩ := HY6.out W hS
                clear hr
                rcases lt13 hi with rfl | rfl | rfl | rfl | rfl | rfl | rfl | rfl | rfl | rfl | rfl | rfl | rfl
                all_goals (simp only [List.getElem?_cons_succ, List.getElem?_cons_zero, Option.some.injEq] at ho; subst ho; simp [RB, Region.binds] at he)
                all_goals (try (simp [go_sem, Oper.wp, execOp, Act.eval, he, h1, h5, h6, cc0, cc1, hil, hil2]; exact hK _ _ hS (Below.refl _ _) rfl))
                all_goals
                  simp [go_sem, Oper.wp, execOp, Act.eval, he]
                  exact hK _ _ (hS.alloc hS.size _) ((Below.refl _ _).alloc (Nat.le_refl _) _) ⟨W.heap.size, rfl, hS.size, heap_alloc_new _ _⟩
              case hfin =>
                intro a W hS hdf htm hr hR
                have hm := act_mid 68 13 rfl (by simp) htm hdf (fun t ht => hr t (fun j hj => by show 68 + j ≠ t; omega))
                obtain ⟨x, hx⟩ : ∃ x : Nat → Value, (fun i => a.tmps.getD (68 + i) undef) = x := ⟨_, rfl⟩
                rw [hx] at hm
                have r0 : x 0 = .slice (some ⟨g, 0, none⟩) c c := by rw [← hx]; exact hR 0 (by omega)
                obtain ⟨q, e1, e2, e3⟩ := hR 12 (by omega)
                have r12 : x 12 = .slice (some ⟨q, 0, none⟩) 1 1 := by rw [← hx]; exact e1
                clear e1 hx hR hr htm hdf
                subst hm
                rw [show List.range 13 = [0, 1, 2, 3, 4, 5, 6, 7, 8, 9, 10, 11, 12] from rfl]
                simp only [List.take_succ_cons, List.take_zero, List.drop_succ_cons, List.drop_zero, List.cons_append, List.nil_append, List.map_cons, List.map_nil, r0, r12]
                clear r0 r12
                have hSz := hS.size
                refine wpList_pushAll rKV rfl _ _ 33 rfl w.heap.size 72 i0 _ 32 Tryz.underlying33 HI.out HZ0.out HZ1.out HZ2.out rfl (by decide) (fun _ => True) (.slice (some ⟨g, 0, none⟩) c c) (M.take c) rfl (HTk.out.below hS) (some ⟨q, 0, none⟩) 1 [(ck, cv)] rfl (fun h => nomatch h) (sl_pair e3 ⟨trivial, fun e => by simp [Value.ownBlock] at e; omega⟩ s1 s2) kv_ones (by have := List.length_take_le c M; unfold maxLen; simp; omega) (by have := List.length_take_le c M; simp; omega) (by omega) ?_
                intro v8 w8 hO8 hK8 hw8
                have hg8 : ∃ q8 n c, v8 = .slice (some ⟨q8, 0, none⟩) n c ∧ q8 ≠ g3 ∧ w.heap.size ≤ q8 := by
                  obtain ⟨a8, c8, rfl⟩ := hO8.form
                  obtain ⟨q8, hq8⟩ := hO8.block (by
                    rcases hw8 with h | ⟨q, h, _⟩
                    · rw [h]; simp [Value.ownBlock]
                    · rw [h]; simp)
                  subst hq8
                  refine ⟨q8, _, _, rfl, ?_, (hO8.lt q8 rfl).1⟩
                  rcases hw8 with h | ⟨q2, h, hq2⟩
                  · simp [Value.ownBlock] at h; omega
                  · simp [Value.ownBlock] at h; omega
                obtain ⟨g8, n8, c8, hv8, hne8, hge8⟩ := hg8
                subst hv8
                have hz8 := hK8.size
                have HS8 := Lib.hid ((HSR.out.below hS).kept hK8 (fun b hb _ e => by simp [Value.ownBlock] at e; omega))
                have HO8 := Lib.hid hO8
                have HB8 := Lib.hid (((HB.out.trans (hBo6.mono HB.out.size)).trans (hS.mono hwW6)).trans (hK8.below (B := w.heap.size) (by omega) (fun b hb => by simp [Value.ownBlock] at hb; omega)))
                have hl8 : (M.take c ++ [(ck, cv)]).length ≤ 2001 := by have := List.length_take_le c M; simp; omega
                clear hO8 hK8 hw8 e3
                go_wp2_with (first | (at_builtin; refine wpList_pushAll rKV rfl _ _ 33 rfl w.heap.size 72 i0 _ 32 Tryz.underlying33 HI.out HZ0.out HZ1.out HZ2.out rfl (by decide) (fun _ => True) _ (M.take c ++ [(ck, cv)]) (by rfl) HO8.out (some ⟨g3, 0, none⟩) (c3) [] (by first | rfl | (simp [Act.eval]; done)) (fun h => nomatch h) (HS8.out.mono (fun b hb _ => ⟨trivial, fun e => by simp [Value.ownBlock] at e; omega⟩)) kv_ones (by have hnl : ([] : List KV).length = 0 := rfl; unfold maxLen; omega) (by have hnl : ([] : List KV).length = 0 := rfl; omega) (by omega) ?_; intro v7 w7 hO7 hK7 hw7))
                obtain ⟨g7, n7, c7, rfl⟩ : ∃ g n c, v7 = .slice (some ⟨g, 0, none⟩) n c := by
                  obtain ⟨a7, c7, rfl⟩ := hO7.form
                  obtain ⟨q, hq⟩ := hO7.block (by
                    rcases hw7 with h | ⟨q, h, _⟩
                    · rw [h]; simp [Value.ownBlock]
                    · rw [h]; simp)
                  exact ⟨q, _, _, by rw [hq]⟩
                have HO7 := Lib.hid hO7
                have HB7 := Lib.hid (HB8.out.trans (hK7.below (B := w.heap.size) (by omega) (fun b hb => by simp [Value.ownBlock] at hb; omega)))
                clear hO7 hK7 hw7
                go_wp2_with fail
                go_roundw
                case measure => simp [intOf]; omega
                case rel => exact ⟨i + 1, g7, _, _, by omega, by go_num, rfl, Lib.hid (by rw [HF.out, HKC.out]; exact HO7.out), HB7⟩
          · skip
            go_wp2_with fail
            (refine wp_region_quiet_lit (by kernel_rfl) (by kernel_rfl) ?_; (repeat (any_goals (first | go_big_quiet_step (fail) | quiet_step (fail) | (refine wpQuiet_step (fun K hK => ?_); go_simp; split <;> (refine hK _ ?_; clear hK K))))); all_goals (refine wpQuiet_nil ?_; intro _ hw'; obtain ⟨nq, hw''⟩ := hw'; subst hw''))
            obtain ⟨W5, hW5⟩ : ∃ x, wr.drewN nq = x := ⟨_, rfl⟩
            have HB5 := Lib.hid (show Below Wo.heap.size Wo W5 by rw [← hW5]; exact below_drewN HBx.out _)
            rw [hW5]
            have HC := Lib.hid (kdo_cut (ck, cv, cg) k M hk HL.out HNL.out)
            have HO5 := Lib.hid (HO.out.below HB5.out)
            obtain ⟨D, hD⟩ : ∃ D, M.drop k = D := ⟨_, rfl⟩
            have hDl : D.length = M.length - k := by rw [← hD, List.length_drop]
            rw [hD] at HC
            have HS5 := Lib.hid (show SlAt rKV (· < W5.heap.size) W5 (some ⟨g, if c = k then 0 else k * 2, none⟩) D by
              by_cases hck : c = k
              · exact .inl (List.eq_nil_of_length_eq_zero (by omega))
              · rw [if_neg hck, ← hD]; have := SlAt.drop2 HO5.out.here k; rwa [Nat.zero_add] at this)
            have hgW : g < W5.heap.size := (HO5.out.lt g rfl).2
            have hwW : w.heap.size ≤ W5.heap.size := by have := HB5.out.size; have := HB.out.size; omega
            clear hW5 hD HL HNL
            go_wp2_with (first | (at_builtin; refine wpList_pushAll rKV rfl _ _ 33 rfl w.heap.size 72 i0 _ 32 Tryz.underlying33 HI.out HZ0.out HZ1.out HZ2.out rfl (by decide) (fun _ => True) _ [] (by rfl) (own_made rKV _ W5 w.heap.size _ hwW) (some ⟨g, if c = k then 0 else k * 2, none⟩) (c - k) D (by rw [hDl]; first | (simp [Act.eval]; done) | (simp [Act.eval]; omega) | (simp [Act.eval, hck]; done)) (fun h => nomatch h) ((HS5.out.below ((Below.refl _ _).alloc (Nat.le_refl _) _)).mono (fun b hb _ => ⟨trivial, fun e => by simp [Value.ownBlock] at e; omega⟩)) kv_ones (by unfold maxLen; simp; omega) (by simp; omega) (by simp; omega) ?_; intro v3 w3 hO3 hK3 hw3))
            have HB3 := Lib.hid (show Below W5.heap.size W5 w3 from ((Below.refl _ W5).alloc (Nat.le_refl _) _).trans (hK3.below (by simp) (fun b hb => by simp [Value.ownBlock] at hb; omega)))
            obtain ⟨g3, n3, c3, hv3, hg3⟩ : ∃ g n c, v3 = .slice (some ⟨g, 0, none⟩) n c ∧ W5.heap.size ≤ g := by
              obtain ⟨a3, c3, rfl⟩ := hO3.form
              obtain ⟨q, hq⟩ := hO3.block (by
                rcases hw3 with h | ⟨q, h, _⟩
                · rw [h]; simp [Value.ownBlock]
                · rw [h]; simp)
              subst hq
              refine ⟨q, _, _, rfl, ?_⟩
              rcases hw3 with h | ⟨q2, h, hq2⟩
              · simp [Value.ownBlock] at h; omega
              · simp [Value.ownBlock] at h; simp at hq2; omega
            subst hv3
            rw [List.nil_append] at hO3
            have hn3 : n3 = D.length := by
              obtain ⟨_, _, h⟩ := hO3.form
              injection h
            subst hn3
            have HO3 := Lib.hid hO3
            have hcp3 := hO3.cap.1
            have hcm3 := hO3.cap.2.1
            unfold maxLen at hcm3
            clear hO3 hK3 hw3
            have hD0 : D = [] := List.eq_nil_of_length_eq_zero (by omega)
            subst hD0
            simp only [List.length_nil]
            go_wp2_with fail
            (refine wp_region_quiet_lit (by kernel_rfl) (by kernel_rfl) ?_; (repeat (any_goals (first | go_big_quiet_step (fail) | quiet_step (fail) | (refine wpQuiet_step (fun K hK => ?_); go_simp; split <;> (refine hK _ ?_; clear hK K))))); all_goals (refine wpQuiet_nil ?_; intro _ hw'; obtain ⟨nq, hw''⟩ := hw'; subst hw''))
            go_upto_region 11 with fail
            obtain ⟨W6, hW6⟩ : ∃ x, w3.drewN nq = x := ⟨_, rfl⟩
            have HB6 := Lib.hid (show Below w3.heap.size w3 W6 by rw [← hW6]; exact below_drewN (Below.refl _ _) _)
            rw [hW6]
            have hBo6 := chain HB5.out (chain HB3.out HB6.out)
            have HTk := Lib.hid ((HO.out.below hBo6).take hk)
            have HSR := Lib.hid ((SlAt.only (HO3.out.here)).below HB6.out)
            have y2' := (hBo6.cell (p := ⟨b, off + i * 3 + 2, none⟩) HBL.out).trans HY.out.2.2
            have hgW6 : g < W6.heap.size := by have := HB3.out.size; have := HB6.out.size; omega
            have hg3W6 : g3 < W6.heap.size := by have := (HO3.out.lt g3 rfl).2; have := HB6.out.size; omega
            have hwW6 : w.heap.size ≤ W6.heap.size := by have := HB3.out.size; have := HB6.out.size; omega
            have hgb : w.heap.size ≤ g := (HO.out.lt g rfl).1
            have hb6lt : b < W6.heap.size := by have := hBo6.size; have := HBL.out; omega
            clear hW6
            cases cg with
            | true =>
              have HKC := Lib.hid (show kdo M (ck, cv, true) = M.take k ++ [] by rw [HC.out, show kcut [] (ck, cv, true) = [] from rfl]; simp [wput])
              go_wp2_with (first | (at_builtin; refine wpList_pushAll rKV rfl _ _ 33 rfl w.heap.size 72 i0 _ 32 Tryz.underlying33 HI.out HZ0.out HZ1.out HZ2.out rfl (by decide) (fun _ => True) _ (M.take k) (by rfl) HTk.out (some ⟨g3, 0, none⟩) (c3) [] (by first | rfl | (simp [Act.eval]; done)) (fun h => nomatch h) (HSR.out.mono (fun b hb _ => ⟨trivial, fun e => by simp [Value.ownBlock] at e; omega⟩)) kv_ones (by have := List.length_take_le k M; have hnl : ([] : List KV).length = 0 := rfl; unfold maxLen; omega) (by have := List.length_take_le k M; have hnl : ([] : List KV).length = 0 := rfl; omega) hwW6 ?_; intro v7 w7 hO7 hK7 hw7))
              obtain ⟨g7, n7, c7, rfl⟩ : ∃ g n c, v7 = .slice (some ⟨g, 0, none⟩) n c := by
                obtain ⟨a7, c7, rfl⟩ := hO7.form
                obtain ⟨q, hq⟩ := hO7.block (by
                  rcases hw7 with h | ⟨q, h, _⟩
                  · rw [h]; simp [Value.ownBlock]
                  · rw [h]; simp)
                exact ⟨q, _, _, by rw [hq]⟩
              have HO7 := Lib.hid hO7
              have HB7 := Lib.hid ((HB.out.trans (hBo6.mono HB.out.size)).trans (hK7.below (B := w.heap.size) hwW6 (fun b hb => by simp [Value.ownBlock] at hb; omega)))
              clear hO7 hK7 hw7
              go_wp2_with fail
              go_roundw
              case measure => simp [intOf]; omega
              case rel => exact ⟨i + 1, g7, _, _, by omega, by go_num, rfl, Lib.hid (by rw [HF.out, HKC.out]; exact HO7.out), HB7⟩
            | false =>
              have HKC := Lib.hid (show kdo M (ck, cv, false) = (M.take k ++ [(ck, cv)]) ++ [] by rw [HC.out, show kcut [] (ck, cv, false) = [] from rfl]; simp [wput])
              have y0' := (hBo6.cell (p := ⟨b, off + i * 3, none⟩) HBL.out).trans HY.out.1
              have y1' := (hBo6.cell (p := ⟨b, off + i * 3 + 1, none⟩) HBL.out).trans HY.out.2.1
              go_upto_region 13 with fail
              have HY6 := Lib.hid (fun W (hb : Below W6.heap.size W6 W) => show W.cell? ⟨b, off + i * 3, none⟩ = some (.string ck) ∧ W.cell? ⟨b, off + i * 3 + 1, none⟩ = some (.string cv) from ⟨(hb.cell (p := ⟨b, off + i * 3, none⟩) hb6lt).trans y0', (hb.cell (p := ⟨b, off + i * 3 + 1, none⟩) hb6lt).trans y1'⟩)
              refine wp_region_eachT (by kernel_rfl) 13 (by decide) (by kernel_rfl) (by kernel_rfl) (by kernel_rfl) (by kernel_rfl) (fun W => Below W6.heap.size W6 W) (fun W W' => Below W.heap.size W W') (RB g k c b off i ws.length cap2 W6.heap.size ck cv) (fun i => 68 + i) ?hd ?inj ?hord ?mono ?hS0 ?hop ?hfin
              case inj => intro i j _ _ h; omega
              case hS0 => exact (Below.refl _ _).drew
              case hd =>
                intro i o hi ho
                rcases lt13 hi with rfl | rfl | rfl | rfl | rfl | rfl | rfl | rfl | rfl | rfl | rfl | rfl | rfl
                all_goals (cases ho; exact ⟨rfl, rfl, by simp⟩)
              case hord =>
                intro i o ho e he
                have hi : i < 15 := (List.getElem?_eq_some_iff.1 ho).1
                rcases lt15 hi with rfl | rfl | rfl | rfl | rfl | rfl | rfl | rfl | rfl | rfl | rfl | rfl | rfl | rfl | rfl
                all_goals (cases ho; exact all_before (by kernel_rfl) e he)
              case mono =>
                intro i v W W' h hE
                by_cases hi : i < 13
                · rcases lt13 hi with rfl | rfl | rfl | rfl | rfl | rfl | rfl | rfl | rfl | rfl | rfl | rfl | rfl
                  all_goals first
                    | exact h
                    | (obtain ⟨q, e1, e2, e3⟩ := h; exact ⟨q, e1, e2, (hE.block q (Array.getElem?_eq_some_iff.1 e3).1).trans e3⟩)
                · exfalso
                  obtain ⟨j, rfl⟩ : ∃ j, i = j + 13 := ⟨i - 13, by omega⟩
                  exact h
              case hop =>
                intro i' o' hi ho a W hS hr he Kx hK
                have h1 : a.tmps[1]?.getD undef = .slice (some ⟨b, off, none⟩) ws.length cap2 := by have := hr 1 (by intro j hj; show 68 + j ≠ 1; omega); simpa using this
                have h5 : a.tmps[5]?.getD undef = .slice (some ⟨g, 0, none⟩) k c := by have := hr 5 (by intro j hj; show 68 + j ≠ 5; omega); simpa using this
                have h6 : a.tmps[6]?.getD undef = .int .i64 i := by have := hr 6 (by intro j hj; show 68 + j ≠ 6; omega); simpa using this
                obtain ⟨cc0, cc1⟩ := HY6.out W hS
                clear hr
                rcases lt13 hi with rfl | rfl | rfl | rfl | rfl | rfl | rfl | rfl | rfl | rfl | rfl | rfl | rfl
                all_goals (simp only [List.getElem?_cons_succ, List.getElem?_cons_zero, Option.some.injEq] at ho; subst ho; simp [RB, Region.binds] at he)
                all_goals (try (simp [go_sem, Oper.wp, execOp, Act.eval, he, h1, h5, h6, cc0, cc1, hil, hil2]; exact hK _ _ hS (Below.refl _ _) rfl))
                all_goals
                  simp [go_sem, Oper.wp, execOp, Act.eval, he]
                  exact hK _ _ (hS.alloc hS.size _) ((Below.refl _ _).alloc (Nat.le_refl _) _) ⟨W.heap.size, rfl, hS.size, heap_alloc_new _ _⟩
              case hfin =>
                intro a W hS hdf htm hr hR
                have hm := act_mid 68 13 rfl (by simp) htm hdf (fun t ht => hr t (fun j hj => by show 68 + j ≠ t; omega))
                obtain ⟨x, hx⟩ : ∃ x : Nat → Value, (fun i => a.tmps.getD (68 + i) undef) = x := ⟨_, rfl⟩
                rw [hx] at hm
                have r0 : x 0 = .slice (some ⟨g, 0, none⟩) k c := by rw [← hx]; exact hR 0 (by omega)
                obtain ⟨q, e1, e2, e3⟩ := hR 12 (by omega)
                have r12 : x 12 = .slice (some ⟨q, 0, none⟩) 1 1 := by rw [← hx]; exact e1
                clear e1 hx hR hr htm hdf
                subst hm
                rw [show List.range 13 = [0, 1, 2, 3, 4, 5, 6, 7, 8, 9, 10, 11, 12] from rfl]
                simp only [List.take_succ_cons, List.take_zero, List.drop_succ_cons, List.drop_zero, List.cons_append, List.nil_append, List.map_cons, List.map_nil, r0, r12]
                clear r0 r12
                have hSz := hS.size
                refine wpList_pushAll rKV rfl _ _ 33 rfl w.heap.size 72 i0 _ 32 Tryz.underlying33 HI.out HZ0.out HZ1.out HZ2.out rfl (by decide) (fun _ => True) (.slice (some ⟨g, 0, none⟩) k c) (M.take k) rfl (HTk.out.below hS) (some ⟨q, 0, none⟩) 1 [(ck, cv)] rfl (fun h => nomatch h) (sl_pair e3 ⟨trivial, fun e => by simp [Value.ownBlock] at e; omega⟩ s1 s2) kv_ones (by have := List.length_take_le k M; unfold maxLen; simp; omega) (by have := List.length_take_le k M; simp; omega) (by omega) ?_
                intro v8 w8 hO8 hK8 hw8
                have hg8 : ∃ q8 n c, v8 = .slice (some ⟨q8, 0, none⟩) n c ∧ q8 ≠ g3 ∧ w.heap.size ≤ q8 := by
                  obtain ⟨a8, c8, rfl⟩ := hO8.form
                  obtain ⟨q8, hq8⟩ := hO8.block (by
                    rcases hw8 with h | ⟨q, h, _⟩
                    · rw [h]; simp [Value.ownBlock]
                    · rw [h]; simp)
                  subst hq8
                  refine ⟨q8, _, _, rfl, ?_, (hO8.lt q8 rfl).1⟩
                  rcases hw8 with h | ⟨q2, h, hq2⟩
                  · simp [Value.ownBlock] at h; omega
                  · simp [Value.ownBlock] at h; omega
                obtain ⟨g8, n8, c8, hv8, hne8, hge8⟩ := hg8
                subst hv8
                have hz8 := hK8.size
                have HS8 := Lib.hid ((HSR.out.below hS).kept hK8 (fun b hb _ e => by simp [Value.ownBlock] at e; omega))
                have HO8 := Lib.hid hO8
                have HB8 := Lib.hid (((HB.out.trans (hBo6.mono HB.out.size)).trans (hS.mono hwW6)).trans (hK8.below (B := w.heap.size) (by omega) (fun b hb => by simp [Value.ownBlock] at hb; omega)))
                have hl8 : (M.take k ++ [(ck, cv)]).length ≤ 2001 := by have := List.length_take_le k M; simp; omega
                clear hO8 hK8 hw8 e3
                go_wp2_with (first | (at_builtin; refine wpList_pushAll rKV rfl _ _ 33 rfl w.heap.size 72 i0 _ 32 Tryz.underlying33 HI.out HZ0.out HZ1.out HZ2.out rfl (by decide) (fun _ => True) _ (M.take k ++ [(ck, cv)]) (by rfl) HO8.out (some ⟨g3, 0, none⟩) (c3) [] (by first | rfl | (simp [Act.eval]; done)) (fun h => nomatch h) (HS8.out.mono (fun b hb _ => ⟨trivial, fun e => by simp [Value.ownBlock] at e; omega⟩)) kv_ones (by have hnl : ([] : List KV).length = 0 := rfl; unfold maxLen; omega) (by have hnl : ([] : List KV).length = 0 := rfl; omega) (by omega) ?_; intro v7 w7 hO7 hK7 hw7))
                obtain ⟨g7, n7, c7, rfl⟩ : ∃ g n c, v7 = .slice (some ⟨g, 0, none⟩) n c := by
                  obtain ⟨a7, c7, rfl⟩ := hO7.form
                  obtain ⟨q, hq⟩ := hO7.block (by
                    rcases hw7 with h | ⟨q, h, _⟩
                    · rw [h]; simp [Value.ownBlock]
                    · rw [h]; simp)
                  exact ⟨q, _, _, by rw [hq]⟩
                have HO7 := Lib.hid hO7
                have HB7 := Lib.hid (HB8.out.trans (hK7.below (B := w.heap.size) (by omega) (fun b hb => by simp [Value.ownBlock] at hb; omega)))
                clear hO7 hK7 hw7
                go_wp2_with fail
                go_roundw
                case measure => simp [intOf]; omega
                case rel => exact ⟨i + 1, g7, _, _, by omega, by go_num, rfl, Lib.hid (by rw [HF.out, HKC.out]; exact HO7.out), HB7⟩

    · obtain rfl : i = ws.length := by omega
      rw [List.take_length] at HO
      have hn : n = (ws.foldl kdo l).length := by
        obtain ⟨_, _, h⟩ := HO.out.form
        injection h
      subst hn
      go_wp2_with fail
      go_ret
      exact ⟨_, _, rfl, HO.out, HB.out⟩
end Go.Proofs.YtdebfnlnpfienaaGreatDoor
