/- The program's Apply: a map of counts, its keys sorted. -/
import Derived.Test.YtkmkedmefhmnaaaLApp2
import Derived.Test.YtkmkedmefhmnaaaLSort
import Derived.Maps.OwnSet
namespace Go.Proofs.Ytkmkedmefhmnaaa
open Go.RowKit Go.Maps Lift
set_option linter.unusedSimpArgs false
set_option linter.unusedVariables false

def There (f : Int → Option Int) (n : Nat) (s : List Int) : Prop := (∀ x ∈ s, Wf x) ∧ ∀ x, Wf x → ((f x).isSome = true ↔ x ∈ s) ∧ 0 ≤ (f x).getD 0 ∧ (f x).getD 0 ≤ n
theorem There.put {f : Int → Option Int} {n : Nat} {s : List Int} (h : There f n s) {y : Int} (hy : Wf y) : There (fun x => if x = y then some ((f y).getD 0 + 1) else f x) (n + 1) (withL y s) := by
  refine ⟨fun x hx => ?_, fun x hx => ?_⟩
  · rcases mem_with.1 hx with rfl | hx
    · exact hy
    · exact h.1 x hx
  · have h1 := h.2 x hx
    have h2 := h.2 y hy
    dsimp only
    rw [mem_with]
    by_cases e : x = y
    · rw [if_pos e]; simp [e]; omega
    · rw [if_neg e]; simp only [e, false_or]; refine ⟨h1.1, h1.2.1, by omega⟩
theorem There.del {f : Int → Option Int} {n : Nat} {s : List Int} (h : There f n s) {y : Int} : There (fun x => if x = y then none else f x) n (withoutL y s) := by
  refine ⟨fun x hx => h.1 x (mem_without.1 hx).2, fun x hx => ?_⟩
  have h1 := h.2 x hx
  dsimp only
  rw [mem_without]
  by_cases e : x = y
  · rw [if_pos e]; simp [e]
  · rw [if_neg e]; simp only [ne_eq, e, not_false_eq_true, true_and]; exact h1
theorem There.mono {f : Int → Option Int} {n m : Nat} {s : List Int} (h : There f n s) (hm : n ≤ m) : There f m s := ⟨h.1, fun x hx => by have := h.2 x hx; refine ⟨this.1, this.2.1, by omega⟩⟩

theorem keys_of {P : Program} {K : TypeId} {R : Value → Option (DataW Unit × List MemPlace)} {w : World} {b n : Nat} {D : DataW Unit} (hown : w.ownsMap P K R b n D) (hK : Keyed P K) (hk : P.underlying K = some (.int .i64)) :
    (intKeys D).Nodup ∧ ∀ x, x ∈ intKeys D ↔ has D (.int .i64 x) = true := by
  obtain ⟨es, hD, hp, _⟩ := hown.entries hK
  obtain ⟨es', hD', hko⟩ := hown.keysOf
  obtain rfl : es = es' := by rw [hD] at hD'; simpa using hD'
  subst hD
  have hkk : ∀ p ∈ es, ∃ x, p.1 = .int .i64 x := fun p hp => by obtain ⟨v, hv⟩ := hko p hp; obtain ⟨x, _, hx, _⟩ := Maps.keyOf_i64 hk hv; exact ⟨x, hx⟩
  constructor
  · show (es.map fun p => Go.intOf p.1).Nodup
    refine List.pairwise_map.2 (hp.imp_of_mem fun {p q} hp' hq' hne e => hne ?_)
    obtain ⟨a, ha⟩ := hkk p hp'
    obtain ⟨b, hb⟩ := hkk q hq'
    rw [ha, hb] at e ⊢
    exact congrArg _ e
  · intro x
    rw [has_eq, List.any_eq_true]
    show x ∈ es.map (fun p => Go.intOf p.1) ↔ _
    rw [List.mem_map]
    constructor
    · rintro ⟨p, hp', rfl⟩
      obtain ⟨a, ha⟩ := hkk p hp'
      exact ⟨p, hp', by rw [ha]; simp [Lit.sameKey, Go.intOf]⟩
    · rintro ⟨p, hp', hs⟩
      obtain ⟨a, ha⟩ := hkk p hp'
      rw [ha] at hs
      exact ⟨p, hp', by rw [ha]; simpa [Lit.sameKey, Go.intOf] using hs⟩
theorem own_ints {w : World} {B : Nat} {v : Value} {s : List Int} (h : w.ownsRow B 3 1 v s.length (s.map encZ)) (hw : ∀ x ∈ s, Wf x) : Own (Rd.int .i64) (fun _ => True) w B 3 v s := by
  refine ⟨s.map encZ, h, RowsOf.of_idx (by simp [Rd.int]) (fun k c hk => ⟨[.int .i64 c], ⟨rfl, hw c (List.mem_of_getElem? hk)⟩, fun j v hj => ?_⟩)⟩
  obtain rfl : j = 0 := by have := (List.getElem?_eq_some_iff.1 hj).1; simp at this; omega
  simp at hj
  subst hj
  simp [Rd.int, hk]

/-- The map's keys, sorted, as the row that Apply gives. -/
theorem sorted_there (b n : Nat) (f : Int → Option Int) (s : List Int) (w : World) (hm : IMap Try.prog 3 3 w b n f) (ht : There f n s) (hs : s.Pairwise (· < ·)) (hn : n ≤ 100000) :
    Calls Try.prog 23 #[.func (.func 30) #[] #[.pointer (some ⟨w.heap.size, 0, none⟩)]] (w.alloc (.cells #[.map (some b)] 39)) (RowPost (Rd.int .i64) 3 s w) := by
  obtain ⟨D, h1, h2⟩ := hm
  have hsz := h1.size_le
  obtain ⟨hnd, hmem⟩ := keys_of h1 (int_keyed Try.underlying3) Try.underlying3
  have hwf := intKeys_wf h1 Try.underlying3
  refine (sorted_call b n D _ w h1 (by unfold maxLen; omega) (by omega)).mono ?_
  rintro e w' ⟨v, ss, rfl, hp, hrow, _, hb⟩
  have hq := sorted_is (ss := ss) (s := s) (hp.nodup_iff.2 hnd) hs (fun x => by
    rw [hp.mem_iff]
    constructor
    · intro hx
      have hw := hwf x hx
      rw [hmem, (h2 x hw).1] at hx
      exact (ht.2 x hw).1.1 hx
    · intro hx
      have hw := ht.1 x hx
      rw [hmem, (h2 x hw).1]
      exact (ht.2 x hw).1.2 hx)
  have hl : ss.length = s.length := by rw [← hq]; simp
  rw [hq, hl] at hrow
  have hO := own_ints hrow ht.1
  obtain ⟨ao, cap, rfl⟩ := hO.form
  exact ⟨ao, cap, rfl, hO, hb⟩

set_option maxHeartbeats 1000000 in
set_option maxRecDepth 100000 in
theorem apply_any (bo : Option Addr) (bcap : Nat) (ids : List Int) (ao : Option Addr) (cap : Nat) (l : List Chg) (w : World) (hi : SlAt (Rd.int .i64) (· < w.heap.size) w bo ids) (hl : SlAt rChg (· < w.heap.size) w ao l) (hilen : ids.length ≤ 10000) (hlen : l.length ≤ 10000) :
    Calls Try.prog 18 #[.slice bo ids.length bcap, .slice ao l.length cap] w (RowPost (Rd.int .i64) 3 (applyL ids l) w) := by
  have hmm := @run_makeMap Try.prog
  go_enter Try.func18, Try.ntmps18
  go_wp2_with fail
  go_loopw [13] (fun v13 wr => ∃ (k : Nat) (f : Int → Option Int), k ≤ ids.length ∧ v13 = .int .i64 k ∧ There f k (idsL (ids.take k)) ∧ IMap Try.prog 3 3 wr w.heap.size k f ∧ Below w.heap.size w wr) (fun v13 _ => ids.length - (intOf v13).toNat)
  case atStart => exact ⟨0, _, by omega, rfl, ⟨fun x hx => by simp [idsL] at hx, fun x hx => by simp [idsL]⟩, IMap.made _ _ _ _, (Below.refl _ _).alloc (Nat.le_refl _) _⟩
  case round =>
    obtain ⟨k, f, hk, rfl, hT, hm, hb⟩ := hrel
    by_cases hkl : k < ids.length
    · obtain ⟨x, hxl⟩ := some_at hkl
      obtain ⟨b1, o1, rfl, _, hb1, x1, g1⟩ := int_get (hi.old hb) hxl
      have hlim : k ≤ 10000 := by omega
      have HS := Lib.hid (show idsL (ids.take (k + 1)) = withL x (idsL (ids.take k)) by rw [take_at2 hxl, ids_snoc])
      have HT := Lib.hid (hT.put g1)
      have hv := hT.2 x g1
      have hv1 : 0 ≤ (f x).getD 0 := hv.2.1
      have hv2 : (f x).getD 0 ≤ 10000 := by omega
      clear hv hT
      go_wp2_with (first
        | (at_lookup; refine wpList_imap_get _ rfl _ _ 39 rfl 3 3 Try.underlying39 Try.underlying3 Try.underlying3 (zero3 _) w.heap.size k _ rfl hm _ rfl g1 ?_; intro hwv)
        | (at_mapUpdate; refine wpList_imap_put _ rfl _ _ _ 39 rfl 3 3 Try.underlying39 Try.underlying3 Try.underlying3 w.heap.size k _ rfl hm (by unfold maxLen; omega) _ ((f x).getD 0 + 1) rfl (by first | rfl | (simp [Act.eval]; done) | (go_num)) g1 (Wf.of (by omega) (by omega)) ?_; intro w1 hm1 hg1))
      go_roundw
      case measure => simp [intOf]; omega
      case rel => exact ⟨k + 1, _, by omega, by go_num, by rw [HS.out]; exact HT.out, hm1, hb.trans ((Kept.of_grown hg1).below hb.size (fun j hj => by cases hj; omega))⟩
    · obtain rfl : k = ids.length := by omega
      rw [List.take_length] at hT
      go_wp2_with fail
      go_loopw [24] (fun v24 wx => ∃ (k n : Nat) (f : Int → Option Int), k ≤ l.length ∧ v24 = .int .i64 k ∧ n ≤ ids.length + k ∧ There f n (applyL ids (l.take k)) ∧ IMap Try.prog 3 3 wx w.heap.size n f ∧ Below w.heap.size w wx) (fun v24 _ => l.length - (intOf v24).toNat)
      case atStart => exact ⟨0, _, f, by omega, rfl, Nat.le_refl _, hT, hm, hb⟩
      case round =>
        clear hT hm hb
        obtain ⟨k, n, f, hk, rfl, hn, hT, hm, hb⟩ := hrel
        by_cases hkl : k < l.length
        · obtain ⟨c, hcl⟩ := some_at hkl
          obtain ⟨b1, o1, rfl, hb1, x1, x2, x3⟩ := chg_get (hl.old hb) hcl
          obtain ⟨g1, g2, g3⟩ := chg_wf (hl.old hb) hcl
          have hlim : k ≤ 10000 := by omega
          have hnl : n ≤ 20000 := by omega
          have HA := Lib.hid (show applyL ids (l.take (k + 1)) = stepL (applyL ids (l.take k)) c by rw [take_at2 hcl, apply_snoc])
          by_cases h1 : c.2.2 = 1
          · have HS := Lib.hid (HA.out.trans (show stepL _ c = _ from if_pos h1))
            have h2 : (c.2.2 == (1:Int)) = true := by simp [h1]
            have HT := Lib.hid (hT.put g2)
            have hv := hT.2 _ g2
            have hv1 : 0 ≤ (f c.2.1).getD 0 := hv.2.1
            have hv2 : (f c.2.1).getD 0 ≤ 20000 := by omega
            clear hv hT h1
            go_wp2_with (first
              | (at_lookup; refine wpList_imap_get _ rfl _ _ 39 rfl 3 3 Try.underlying39 Try.underlying3 Try.underlying3 (zero3 _) w.heap.size n _ rfl (hm.alloc _) _ rfl g2 ?_; intro hwv)
              | (at_mapUpdate; refine wpList_imap_put _ rfl _ _ _ 39 rfl 3 3 Try.underlying39 Try.underlying3 Try.underlying3 w.heap.size n _ rfl (hm.alloc _) (by unfold maxLen; omega) _ ((f c.2.1).getD 0 + 1) rfl (by first | rfl | (simp [Act.eval]; done) | (go_num)) g2 (Wf.of (by omega) (by omega)) ?_; intro w1 hm1 hg1))
            go_roundw
            case measure => simp [intOf]; omega
            case rel => exact ⟨k + 1, n + 1, _, by omega, by go_num, by omega, by rw [HS.out]; exact HT.out, hm1, hb.trans ((Kept.push hg1).below hb.size (fun j hj => by cases hj; omega))⟩
          · have h2 : (c.2.2 == (1:Int)) = false := by simp [h1]
            by_cases h3 : c.2.2 = 2
            · have HS := Lib.hid (HA.out.trans (show stepL _ c = _ from (if_neg h1).trans (if_pos h3)))
              have h4 : (c.2.2 == (2:Int)) = true := by simp [h3]
              have HT := Lib.hid (hT.del (y := c.2.1))
              clear hT h1 h3
              go_wp2_with (first
                | (at_delete; refine wpList_imap_del _ rfl _ _ 39 3 rfl 3 Try.underlying39 Try.underlying3 w.heap.size n _ rfl (hm.alloc _) _ rfl g2 ?_; intro w1 hm1 hg1))
              go_roundw
              case measure => simp [intOf]; omega
              case rel => exact ⟨k + 1, n, _, by omega, by go_num, by omega, by rw [HS.out]; exact HT.out, hm1, hb.trans ((Kept.push hg1).below hb.size (fun j hj => by cases hj; omega))⟩
            · have HS := Lib.hid (HA.out.trans (show stepL _ c = _ from (if_neg h1).trans (if_neg h3)))
              have h4 : (c.2.2 == (2:Int)) = false := by simp [h3]
              clear h1 h3
              go_wp2_with fail
              go_roundw
              case measure => simp [intOf]; omega
              case rel => exact ⟨k + 1, n, f, by omega, by go_num, by omega, by rw [HS.out]; exact hT, hm.alloc _, hb.alloc hb.size _⟩
        · obtain rfl : k = l.length := by omega
          rw [List.take_length] at hT
          go_wp2_with fail
          refine (keys_call _ _).mono ?_
          rintro e w2 ⟨rfl, rfl⟩
          go_wp2_with fail
          refine (sorted_there _ n f _ _ hm hT (up_apply _ _) (by omega)).mono ?_
          rintro e w3 ⟨ao3, cap3, rfl, hO3, hb3⟩
          go_wp2_with fail
          go_ret
          exact ⟨ao3, cap3, rfl, hO3.rebase hb.size, chain hb hb3⟩
end Go.Proofs.Ytkmkedmefhmnaaa
