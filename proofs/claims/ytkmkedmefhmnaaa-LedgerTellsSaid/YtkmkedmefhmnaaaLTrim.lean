/- Trim and Net of a ledger, the program's and the reference's: the last change of each item. -/
import Derived.Test.YtkmkedmefhmnaaaLed
import Derived.Test.YtkmkedmefhmnaaaIMap
import Derived.Maps.AppendAt
import Derived.Outline
namespace Go.Proofs.Ytkmkedmefhmnaaa
open Go.RowKit Lift
set_option linter.unusedSimpArgs false
set_option linter.unusedVariables false

def lastTo (l : List Chg) : Nat → Int → Option Int
  | 0, _ => none
  | k + 1, id => if (l[k]?).map (·.2.1) = some id then some k else lastTo l k id
theorem lastTo_lt (l : List Chg) (id : Int) : ∀ (n : Nat) (j : Int), lastTo l n id = some j → 0 ≤ j ∧ j < n
  | 0, j, h => by simp [lastTo] at h
  | n + 1, j, h => by
    rw [lastTo] at h
    split at h
    · injection h with h; omega
    · have := lastTo_lt l id n j h; omega
theorem lastTo_hit {l : List Chg} {k : Nat} {c : Chg} (hk : l[k]? = some c) : ∀ (n : Nat), k < n →
    (lastTo l n c.2.1 = some (k : Int) ↔ ∀ j d, k < j → j < n → l[j]? = some d → d.2.1 ≠ c.2.1) ∧ ∃ j : Int, lastTo l n c.2.1 = some j
  | 0, h => by omega
  | n + 1, h => by
    rw [lastTo]
    by_cases e : k = n
    · subst e
      rw [if_pos (by rw [hk]; rfl)]
      exact ⟨⟨fun _ j d h1 h2 => by omega, fun _ => rfl⟩, _, rfl⟩
    · obtain ⟨h1, h2⟩ := lastTo_hit hk n (by omega)
      split
      · rename_i h3
        refine ⟨⟨fun h4 => by injection h4 with h4; omega, fun h4 => ?_⟩, _, rfl⟩
        exfalso
        cases hd : l[n]? with
        | none => rw [hd] at h3; simp at h3
        | some d => rw [hd] at h3; simp at h3; exact h4 n d (by omega) (by omega) hd h3
      · rename_i h3
        refine ⟨h1.trans ⟨fun h4 j d h5 h6 h7 => ?_, fun h4 j d h5 h6 h7 => h4 j d h5 (by omega) h7⟩, h2⟩
        by_cases e2 : j = n
        · subst e2; intro h8; exact h3 (by rw [h7]; simp [h8])
        · exact h4 j d h5 (by omega) h7

def later (c : Chg) (r : List Chg) : Bool := r.any fun d => d.2.1 == c.2.1
def trimL : List Chg → List Chg
  | [] => []
  | c :: r => if later c r then trimL r else c :: trimL r
theorem trimL_len : ∀ l : List Chg, (trimL l).length ≤ l.length
  | [] => Nat.le_refl _
  | c :: r => by rw [trimL]; have := trimL_len r; split <;> simp <;> omega
theorem later_iff {l : List Chg} {k : Nat} {c : Chg} (hk : l[k]? = some c) : later c (l.drop (k + 1)) = false ↔ ∀ j d, k < j → j < l.length → l[j]? = some d → d.2.1 ≠ c.2.1 := by
  unfold later
  rw [List.any_eq_false]
  constructor
  · intro h j d h1 h2 h3 h4
    refine h d ?_ (by simp [h4])
    rw [List.mem_iff_getElem?]
    exact ⟨j - (k + 1), by rw [List.getElem?_drop, show k + 1 + (j - (k + 1)) = j by omega]; exact h3⟩
  · intro h d hd
    obtain ⟨i, hi⟩ := List.mem_iff_getElem?.1 hd
    rw [List.getElem?_drop] at hi
    simpa using h _ d (by omega) (List.getElem?_eq_some_iff.1 hi).1 hi
theorem last_eq {l : List Chg} {k : Nat} {c : Chg} (hk : l[k]? = some c) : ((lastTo l l.length c.2.1).getD 0 == (k : Int)) = !later c (l.drop (k + 1)) := by
  have hlt := (List.getElem?_eq_some_iff.1 hk).1
  obtain ⟨h1, j, h2⟩ := lastTo_hit hk l.length hlt
  rw [h2] at h1 ⊢
  rw [← later_iff hk] at h1
  cases hb : later c (l.drop (k + 1)) with
  | false => have := h1.2 hb; simpa using this
  | true =>
    simp only [Option.getD_some, Bool.not_true, beq_eq_false_iff_ne]
    rintro rfl
    have := h1.1 rfl
    rw [hb] at this; cases this
theorem trim_step {l out : List Chg} {k : Nat} {c : Chg} (hk : l[k]? = some c) (h : out ++ trimL (l.drop k) = trimL l) :
    (later c (l.drop (k + 1)) = true → out ++ trimL (l.drop (k + 1)) = trimL l) ∧ (later c (l.drop (k + 1)) = false → (out ++ [c]) ++ trimL (l.drop (k + 1)) = trimL l) := by
  rw [drop_at2 hk, trimL] at h
  constructor
  · intro hb; rwa [hb] at h
  · intro hb; rw [hb] at h; simpa using h

theorem info28 : (Try.prog.info? 28).map (fun i => (i.zero, i.size, i.bytes)) = some (some (.agg #[.int .i64 0, .int .i64 0, .int .i64 0]), 3, 24) := by kernel_rfl
theorem zero3 (w : World) : (zeroValue 3).run Try.prog w = .ok (.int .i64 0) w := by kernel_rfl

theorem chg_rel (S : Nat → Prop) (w : World) (c : Chg) (h1 : Wf c.1) (h2 : Wf c.2.1) (h3 : Wf c.2.2) : rChg.rel S w [.int .i64 c.1, .int .i64 c.2.1, .int .i64 c.2.2] c :=
  ⟨[_], [_, _], rfl, ⟨rfl, h1⟩, [_], [_], rfl, ⟨rfl, h2⟩, ⟨rfl, h3⟩⟩
theorem chg_wf {S : Nat → Prop} {w : World} {ao : Option Addr} {l : List Chg} (h : SlAt rChg S w ao l) {k : Nat} {c : Chg} (hk : l[k]? = some c) : Wf c.1 ∧ Wf c.2.1 ∧ Wf c.2.2 := by
  obtain ⟨b, off, cs, rfl, _, hlt, ⟨c1, c2, rfl, ⟨rfl, g1⟩, d1, d2, rfl, ⟨rfl, g2⟩, ⟨rfl, g3⟩⟩, hc⟩ := h.get hk
  exact ⟨g1, g2, g3⟩

set_option maxHeartbeats 1000000 in
set_option maxRecDepth 100000 in
theorem trim_any (ao : Option Addr) (cap : Nat) (l : List Chg) (w : World) (hl : SlAt rChg (· < w.heap.size) w ao l) (hlen : l.length ≤ 100000) :
    Calls Try.prog 11 #[.slice ao l.length cap] w (RowPost rChg 28 (trimL l) w) := by
  have hmm := @run_makeMap Try.prog
  obtain ⟨i0, hi, hz0, hz1, hz2⟩ := info_parts info28
  have HI := Lib.hid hi; have HZ0 := Lib.hid hz0; have HZ1 := Lib.hid hz1; have HZ2 := Lib.hid hz2
  clear hi hz0 hz1 hz2
  go_enter Try.func11, Try.ntmps11
  go_wp2_with fail
  go_loopw [12] (fun v12 wr => ∃ k : Nat, k ≤ l.length ∧ v12 = .int .i64 k ∧ IMap Try.prog 3 3 wr w.heap.size k (lastTo l k) ∧ Below w.heap.size w wr) (fun v12 _ => l.length - (intOf v12).toNat)
  case atStart => exact ⟨0, by omega, rfl, IMap.made _ _ _ _, (Below.refl _ _).alloc (Nat.le_refl _) _⟩
  case round =>
    obtain ⟨k, hk, rfl, hm, hb⟩ := hrel
    by_cases hkl : k < l.length
    · obtain ⟨c, hcl⟩ : ∃ c, l[k]? = some c := ⟨l[k], List.getElem?_eq_getElem hkl⟩
      obtain ⟨b1, o1, rfl, hb1, x1, x2, x3⟩ := chg_get (hl.old hb) hcl
      obtain ⟨g1, g2, g3⟩ := chg_wf (hl.old hb) hcl
      have hlim : k ≤ 100000 := by omega
      have HS := Lib.hid (show ∀ y, lastTo l (k + 1) y = if y = c.2.1 then some (k : Int) else lastTo l k y from fun y => by rw [lastTo, hcl]; simp [eq_comm])
      go_wp2_with (first
        | (at_mapUpdate; refine wpList_imap_put _ rfl _ _ _ 39 rfl 3 3 Try.underlying39 Try.underlying3 Try.underlying3 w.heap.size k _ rfl (hm.alloc _) (by unfold maxLen; omega) _ _ rfl rfl g2 (Wf.of (by omega) (by omega)) ?_; intro w1 hm1 hg1))
      go_roundw
      case measure => simp [intOf]; omega
      case rel => exact ⟨k + 1, by omega, by go_num, hm1.eqf (fun y _ => (HS.out y).symm), hb.trans ((Kept.push hg1).below hb.size (fun j hj => by cases hj; omega))⟩
    · obtain rfl : k = l.length := by omega
      go_wp2_with fail
      go_loopw [6, 24] (fun v6 v24 wx => ∃ (k : Nat) (out : List Chg), k ≤ l.length ∧ v24 = .int .i64 k ∧ out.length ≤ k ∧ Hid (out ++ trimL (l.drop k) = trimL l) ∧ Own rChg (fun _ => True) wx (w.heap.size + 1) 28 v6 out ∧ IMap Try.prog 3 3 wx w.heap.size l.length (lastTo l l.length) ∧ Below w.heap.size w wx ∧ w.heap.size + 1 ≤ wx.heap.size) (fun _ v24 _ => l.length - (intOf v24).toNat)
      case atStart => exact ⟨0, [], by omega, rfl, by simp, Lib.hid rfl, Own.nil _ _ _ _ _, hm, hb, hm.lt⟩
      case round =>
        obtain ⟨k, out, hk, rfl, hol, heq, hO, hm, hb, hsz⟩ := hrel
        by_cases hkl : k < l.length
        · obtain ⟨c, hcl⟩ : ∃ c, l[k]? = some c := ⟨l[k], List.getElem?_eq_getElem hkl⟩
          obtain ⟨b1, o1, rfl, hb1, x1, x2, x3⟩ := chg_get (hl.old hb) hcl
          obtain ⟨g1, g2, g3⟩ := chg_wf (hl.old hb) hcl
          have hlim : k ≤ 100000 := by omega
          have hst := trim_step hcl heq.out
          have hq := last_eq hcl
          cases hlat : later c (l.drop (k + 1)) with
          | true =>
            have HE := Lib.hid (hst.1 hlat)
            rw [hlat] at hq
            simp only [Bool.not_true] at hq
            clear hst hlat
            go_wp2_with (first
              | (at_lookup; refine wpList_imap_get _ rfl _ _ 39 rfl 3 3 Try.underlying39 Try.underlying3 Try.underlying3 (zero3 _) w.heap.size l.length _ rfl (hm.alloc _) _ rfl g2 ?_; intro hwv))
            go_roundw
            case measure => simp [intOf]; omega
            case rel => exact ⟨k + 1, out, by omega, by go_num, by omega, HE, hO.alloc _, hm.alloc _, hb.alloc hb.size _, by simp; omega⟩
          | false =>
            have HE := Lib.hid (hst.2 hlat)
            rw [hlat] at hq
            simp only [Bool.not_false] at hq
            clear hst hlat
            go_wp2_with (first
              | (at_lookup; refine wpList_imap_get _ rfl _ _ 39 rfl 3 3 Try.underlying39 Try.underlying3 Try.underlying3 (zero3 _) w.heap.size l.length _ rfl (hm.alloc _) _ rfl g2 ?_; intro hwv)
              | (at_builtin; go_loud (refine wpList_push rChg rfl _ _ 22 rfl (w.heap.size + 1) 28 i0 _ 24 Try.underlying22 HI.out HZ0.out HZ1.out HZ2.out rfl (by decide) (fun _ => True) _ out rfl (hO.alloc _) [.int .i64 c.1, .int .i64 c.2.1, .int .i64 c.2.2] c _ rfl (by simp) (chg_rel _ _ _ g1 g2 g3) (by simp [Value.oneCell']) (by unfold maxLen; omega) (by omega) (by simp; omega) ?_; intro v2 w2 hO2 hK2 hw2)))
            have hB2 := (hO.alloc (.cells #[.int .i64 c.1, .int .i64 c.2.1, .int .i64 c.2.2] 28)).kbelow (B := w.heap.size) (by omega) (by simp; omega) hK2
            have hM2 := (hm.alloc (.cells #[.int .i64 c.1, .int .i64 c.2.1, .int .i64 c.2.2] 28)).old hK2 (fun e => by have := (hO.lt _ e.symm).1; omega)
            have hS2 := hK2.size
            simp at hS2
            go_roundw
            case measure => simp [intOf]; omega
            case rel => exact ⟨k + 1, out ++ [c], by omega, by go_num, by simp; omega, HE, hO2, hM2, (hb.alloc hb.size _).trans hB2, by omega⟩
        · obtain rfl : k = l.length := by omega
          have he := heq.out
          rw [List.drop_length, trimL, List.append_nil] at he
          subst he
          obtain ⟨ao2, cap2, rfl⟩ := hO.form
          go_wp2_with fail
          go_ret
          exact ⟨ao2, cap2, rfl, hO.rebase (by omega), hb⟩
end Go.Proofs.Ytkmkedmefhmnaaa
