/- Changes of a ledger: how they are read; whether two lists of them are the same. -/
import Derived.Test.YtkmkedmefhmnaaaRows
import Derived.Handy
import Derived.Lib.Hide
import Derived.BigQuiet
import Derived.WalkSpells
import Derived.WalkLawsBesides
import Derived.Test.YtkmkedmefhmnaaaRd
namespace Go.Proofs.Ytkmkedmefhmnaaa
open Go.RowKit Lift
set_option linter.unusedSimpArgs false
set_option linter.unusedVariables false

abbrev Chg := Int × Int × Int
def rChg : Rd Chg := (Rd.int .i64).pair ((Rd.int .i64).pair (Rd.int .i64))
theorem chg_get {S : Nat → Prop} {w : World} {ao : Option Addr} {l : List Chg} (h : SlAt rChg S w ao l) {k : Nat} {c : Chg} (hk : l[k]? = some c) :
    ∃ b off, ao = some ⟨b, off, none⟩ ∧ b < w.heap.size ∧ w.cell? ⟨b, off + k * 3, none⟩ = some (.int .i64 c.1) ∧ w.cell? ⟨b, off + k * 3 + 1, none⟩ = some (.int .i64 c.2.1) ∧ w.cell? ⟨b, off + k * 3 + 2, none⟩ = some (.int .i64 c.2.2) := by
  obtain ⟨b, off, cs, rfl, _, hlt, ⟨c1, c2, rfl, ⟨rfl, _⟩, d1, d2, rfl, ⟨rfl, _⟩, ⟨rfl, _⟩⟩, hc⟩ := h.get hk
  exact ⟨b, off, rfl, hlt, hc 0 _ rfl, hc 1 _ rfl, hc 2 _ rfl⟩

theorem take_same {α : Type} {l m : List α} {k : Nat} {c d : α} (h : l.take k = m.take k) (hl : l[k]? = some c) (hm : m[k]? = some d) (hcd : c = d) : l.take (k + 1) = m.take (k + 1) := by
  obtain ⟨h1, rfl⟩ := List.getElem?_eq_some_iff.1 hl
  obtain ⟨h2, rfl⟩ := List.getElem?_eq_some_iff.1 hm
  rw [List.take_succ_eq_append_getElem h1, List.take_succ_eq_append_getElem h2, h, hcd]
theorem ne_at {α : Type} {l m : List α} {k : Nat} {c d : α} (hl : l[k]? = some c) (hm : m[k]? = some d) (hcd : c ≠ d) : l ≠ m := by
  rintro rfl; rw [hl] at hm; exact hcd (Option.some.inj hm)

set_option maxHeartbeats 1000000 in
set_option maxRecDepth 100000 in
theorem same_ref {S S' : Nat → Prop} (ao bo : Option Addr) (cap cap2 : Nat) (l m : List Chg) (w : World) (hl : SlAt rChg S w ao l) (hm : SlAt rChg S' w bo m) (hlen : l.length ≤ 100000) :
    Calls Try.prog 8 #[.slice ao l.length cap, .slice bo m.length cap2] w (BelowPost (.bool (decide (l = m))) w) := by
  by_cases hlm : l.length = m.length
  · have hne : ((l.length : Int) != (m.length : Int)) = false := by simp [hlm]
    have hle1 : l.length ≤ m.length := by omega
    have hle2 : m.length ≤ l.length := by omega
    have HLM := Lib.hid hlm
    clear hlm
    go_enter Try.func8, Try.ntmps8
    go_wp2_with fail
    go_loopw [5] (fun v5 wr => ∃ k : Nat, k ≤ l.length ∧ v5 = .int .i64 k ∧ Hid (l.take k = m.take k) ∧ Below w.heap.size w wr) (fun v5 _ => l.length - (intOf v5).toNat)
    case atStart => exact ⟨0, by omega, rfl, Lib.hid rfl, Below.refl _ _⟩
    case round =>
      obtain ⟨k, hk, rfl, heq, hb⟩ := hrel
      by_cases hkl : k < l.length
      · obtain ⟨c, hcl⟩ : ∃ c, l[k]? = some c := ⟨l[k], List.getElem?_eq_getElem hkl⟩
        obtain ⟨d, hdm⟩ : ∃ c, m[k]? = some c := ⟨m[k], List.getElem?_eq_getElem (by omega)⟩
        obtain ⟨b1, o1, rfl, hb1, x1, x2, x3⟩ := chg_get (hl.below hb) hcl
        obtain ⟨b2, o2, rfl, hb2, y1, y2, y3⟩ := chg_get (hm.below hb) hdm
        have hkm : (k:Int) < (m.length : Int) := by omega
        have hlim : k ≤ 100000 := by omega
        by_cases hcd : c = d
        · have HT := Lib.hid (take_same heq.out hcl hdm hcd)
          subst hcd
          go_wp2_with fail
          (refine wp_region_quiet_lit (by kernel_rfl) (by kernel_rfl) ?_; (repeat (any_goals (first | go_big_quiet_step (fail) | quiet_step (fail) | (refine wpQuiet_step (fun K hK => ?_); go_simp; split <;> (refine hK _ ?_; clear hK K))))); all_goals (refine wpQuiet_nil ?_; intro _ hw'; obtain ⟨nq, hw''⟩ := hw'; subst hw''))
          go_wp2_with fail
          go_roundw
          case measure => simp [intOf]; omega
          case rel => exact ⟨k + 1, by omega, by go_num, HT, (by first | exact Below.refl _ _ | ((repeat (refine bN _ ?_)); first | exact Below.refl _ _ | go_grown))⟩
        · have HT := Lib.hid (ne_at hcl hdm hcd)
          have hcs : ¬ c.1 = d.1 ∨ (c.1 = d.1 ∧ ¬ c.2.1 = d.2.1) ∨ (c.1 = d.1 ∧ c.2.1 = d.2.1 ∧ ¬ c.2.2 = d.2.2) := by
            obtain ⟨c1, c2, c3⟩ := c; obtain ⟨d1, d2, d3⟩ := d
            simp only [Prod.mk.injEq] at hcd
            by_cases e1 : c1 = d1
            · by_cases e2 : c2 = d2
              · exact .inr (.inr ⟨e1, e2, fun e3 => hcd ⟨e1, e2, e3⟩⟩)
              · exact .inr (.inl ⟨e1, e2⟩)
            · exact .inl e1
          clear hcd
          rcases hcs with e1 | ⟨e1, e2⟩ | ⟨e1, e2, e3⟩
          all_goals
            go_wp2_with fail
            (refine wp_region_quiet_lit (by kernel_rfl) (by kernel_rfl) ?_; (repeat (any_goals (first | go_big_quiet_step (fail) | quiet_step (fail) | (refine wpQuiet_step (fun K hK => ?_); go_simp; split <;> (refine hK _ ?_; clear hK K))))); all_goals (refine wpQuiet_nil ?_; intro _ hw'; obtain ⟨nq, hw''⟩ := hw'; subst hw''))
            go_wp2_with fail
            go_ret
            exact ⟨ret_bool (by simpa using HT.out), (by first | exact Below.refl _ _ | ((repeat (refine bN _ ?_)); first | exact Below.refl _ _ | go_grown))⟩
      · obtain rfl : k = l.length := by omega
        have HT := Lib.hid (show l = m by have := heq.out; rwa [List.take_length, List.take_of_length_le hle2] at this)
        go_wp2_with fail
        go_ret
        exact ⟨ret_bool (by simpa using HT.out), hb⟩
  · have hne : ((l.length : Int) != (m.length : Int)) = true := by simp; omega
    have HLM := Lib.hid hlm
    clear hlm
    go_enter Try.func8, Try.ntmps8
    go_wp2_with fail
    go_ret
    exact ⟨ret_bool (by have := HLM.out; simp; rintro rfl; exact this rfl), Below.refl _ _⟩
end Go.Proofs.Ytkmkedmefhmnaaa
