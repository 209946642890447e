/- The document's rising and in. -/
import Derived.Test.YtdkndcmjcmeddaaAu9
import Derived.StillTailTactics
namespace Go.Proofs.Ytdkndcmjcmeddaa
open Go.RowKit Lift
set_option linter.unusedSimpArgs false
set_option linter.unusedVariables false

structure StillH (P : Program) (ops : Array Oper) (w : World) (Q : Act → Prop) (rest : List Oper) (a : Act) : Prop where
  out : wpStill P ops w Q rest a
theorem still_h {P : Program} {ops : Array Oper} {w : World} {Q : Act → Prop} {a : Act} {o : Oper} {rest : List Oper}
    (h : ∀ K : Act → Prop, (∀ a, StillH P ops w Q rest a → K a) → if Region.wanted o (yielded ops a.tmps) then o.still P a w K else K (a.put o.dst undef)) : StillH P ops w Q (o :: rest) a :=
  ⟨wpStill_step fun K hK => h K fun a ha => hK a ha.out⟩
theorem still_end {P : Program} {ops : Array Oper} {w : World} {Q : Act → Prop} {a : Act} (h : Q a) : StillH P ops w Q [] a := ⟨h⟩
theorem int_get {S : Nat → Prop} {w : World} {ao : Option Addr} {l : List Int} (h : SlAt (Rd.int .i64) S w ao l) {k : Nat} {c : Int} (hk : l[k]? = some c) : ∃ b off, ao = some ⟨b, off, none⟩ ∧ S b ∧ b < w.heap.size ∧ w.cell? ⟨b, off + k, none⟩ = some (.int .i64 c) ∧ Wf c := by
  obtain ⟨b, off, cs, rfl, hs, hlt, ⟨rfl, hw⟩, hc⟩ := h.get hk
  refine ⟨b, off, rfl, hs, hlt, ?_, hw⟩
  have := hc 0 _ rfl
  simpa [Rd.int] using this
theorem drop_at {α : Type} {l : List α} {k : Nat} {c : α} (h : l[k]? = some c) : l.drop k = c :: l.drop (k + 1) := by
  obtain ⟨hk, rfl⟩ := List.getElem?_eq_some_iff.1 h
  exact List.drop_eq_getElem_cons hk
def inB (l : List Int) (n : Int) : Bool := l.any (fun c => decide (c = n))
set_option maxHeartbeats 4000000 in
theorem in_ref (ao : Option Addr) (cap : Nat) (l : List Int) (n : Int) (w : World) (hl : SlAt (Rd.int .i64) (· < w.heap.size) w ao l) (hlen : l.length ≤ 100000) :
    Calls Try.prog 30 #[.slice ao l.length cap, .int .i64 n] w (BelowPost (.bool (inB l n)) w) := by
  have HL := Lib.hid (show ∀ w', Below w.heap.size w w' → SlAt (Rd.int .i64) (· < w.heap.size) w' ao l from fun w' h => hl.old h)
  obtain ⟨E, hE⟩ : ∃ E, inB l n = E := ⟨_, rfl⟩
  rw [hE]
  have HE := Lib.hid hE
  clear hE hl
  go_enter Try.func30, Try.ntmps30
  go_wp2_with fail
  go_loopw [5] (fun v5 wr => ∃ k : Nat, k ≤ l.length ∧ v5 = .int .i64 k ∧ Hid (inB l n = inB (l.drop k) n) ∧ Below w.heap.size w wr) (fun v5 _ => l.length - (intOf v5).toNat)
  case atStart => exact ⟨0, by omega, rfl, Lib.hid rfl, Below.refl _ _⟩
  case round =>
    obtain ⟨k, hk, rfl, HD, hbr⟩ := hrel
    by_cases hkl : k < l.length
    · obtain ⟨c, hcl⟩ := some_at hkl
      obtain ⟨bb, oo, rfl, hs1, hb1, y0, hw⟩ := int_get (HL.out _ hbr) hcl
      have hkl2 : (k : Int) < (l.length : Int) := by omega
      have HC := Lib.hid (drop_at hcl)
      clear hcl
      by_cases hcn : c = n
      · subst hcn
        go_wp2_with fail
        go_ret
        exact ⟨ret_bool (by rw [← HE.out, HD.out, HC.out]; simp [inB]), hbr⟩
      · have HN := Lib.hid (show inB (l.drop k) n = inB (l.drop (k + 1)) n by rw [HC.out]; simp [inB, hcn])
        go_wp2_with fail
        go_roundw
        case measure => simp [intOf]; omega
        case rel => exact ⟨k + 1, by omega, by go_num, Lib.hid (HD.out.trans HN.out), hbr⟩
    · obtain rfl : k = l.length := by omega
      go_wp2_with fail
      go_ret
      exact ⟨ret_bool (by rw [← HE.out, HD.out]; simp [inB]), hbr⟩
set_option maxHeartbeats 4000000 in
set_option maxRecDepth 100000 in
theorem rising_ref (ao : Option Addr) (cap : Nat) (l : List Int) (w : World) (hl : SlAt (Rd.int .i64) (· < w.heap.size) w ao l) (hlen : l.length ≤ 100000) :
    Calls Try.prog 29 #[.slice ao l.length cap] w (BelowPost (.bool (risL 0 l)) w) := by
  have HL := Lib.hid (show ∀ w', Below w.heap.size w w' → SlAt (Rd.int .i64) (· < w.heap.size) w' ao l from fun w' h => hl.old h)
  obtain ⟨E, hE⟩ : ∃ E, risL 0 l = E := ⟨_, rfl⟩
  rw [hE]
  have HE := Lib.hid hE
  clear hE hl
  go_enter Try.func29, Try.ntmps29
  go_wp2_with fail
  go_loopw [3] (fun v3 wr => ∃ (k : Nat) (p : Int), k ≤ l.length ∧ v3 = .int .i64 k ∧ ((k = 0 ∧ p = 0) ∨ (0 < k ∧ l[k - 1]? = some p)) ∧ Hid (risL 0 l = risL p (l.drop k)) ∧ Below w.heap.size w wr) (fun v3 _ => l.length - (intOf v3).toNat)
  case atStart => exact ⟨0, 0, by omega, rfl, .inl ⟨rfl, rfl⟩, Lib.hid rfl, Below.refl _ _⟩
  case round =>
    obtain ⟨k, p, hk, rfl, hp, HD, hbr⟩ := hrel
    by_cases hkl : k < l.length
    · obtain ⟨c, hcl⟩ := some_at hkl
      obtain ⟨bb, oo, rfl, hs1, hb1, y0, hw⟩ := int_get (HL.out _ hbr) hcl
      have hkl2 : (k : Int) < (l.length : Int) := by omega
      have HC := Lib.hid (drop_at hcl)
      have HCL := Lib.hid hcl
      clear hcl
      rcases hp with ⟨rfl, rfl⟩ | ⟨hk0, hp⟩
      · simp only [Nat.add_zero] at y0
        by_cases hc1 : c < 1
        · go_wp2_with fail
          (refine wp_region_still_lit (by kernel_rfl) (by kernel_rfl) ?_; refine StillH.out ?_; (repeat (refine still_h (fun K hK => ?_); go_simp; refine hK _ ?_; clear hK K)); refine still_end ?_)
          go_wp2_with fail
          go_ret
          exact ⟨ret_bool (by rw [← HE.out, HD.out, HC.out]; simp [risL]; omega), hbr.drew⟩
        · go_wp2_with fail
          (refine wp_region_still_lit (by kernel_rfl) (by kernel_rfl) ?_; refine StillH.out ?_; (repeat (refine still_h (fun K hK => ?_); go_simp; refine hK _ ?_; clear hK K)); refine still_end ?_)
          go_wp2_with fail
          go_roundw
          case measure => simp [intOf]; omega
          case rel => exact ⟨1, c, by omega, by go_num, .inr ⟨by omega, HCL.out⟩, Lib.hid (by rw [HD.out, HC.out]; simp [risL]; omega), hbr.drew⟩
      · obtain ⟨bb', oo', hao, _, _, z0, hw2⟩ := int_get (HL.out _ hbr) hp
        simp only [Option.some.injEq, Addr.mk.injEq, and_true] at hao
        obtain ⟨rfl, rfl⟩ := hao
        have HP := Lib.hid hp
        clear hp
        have hd0 : ¬ (k : Int) = 0 := by omega
        have hd : decide ((k : Int) = 0) = false := by simpa using hd0
        have hd1 : ((k : Int) == 0) = false := by simpa using hd0
        have hd2 : (0 : Int) < (k : Int) := by omega
        obtain ⟨j, hj⟩ : ∃ j, k - 1 = j := ⟨_, rfl⟩
        rw [hj] at z0
        have hwr : IntKind.i64.wrap ((k : Int) - 1) = (j : Int) := by
          rw [show ((k : Int) - 1) = (j : Int) by omega]; exact IntWalk.i64_in _ (by omega)
        have hd4 : (j : Int) < (l.length : Int) := by omega
        clear hj
        by_cases hc1 : c ≤ p
        · go_wp2_with fail
          (refine wp_region_still_lit (by kernel_rfl) (by kernel_rfl) ?_; refine StillH.out ?_; (repeat (refine still_h (fun K hK => ?_); go_simp; refine hK _ ?_; clear hK K)); refine still_end ?_)
          go_wp2_with fail
          go_ret
          exact ⟨ret_bool (by rw [← HE.out, HD.out, HC.out]; simp [risL, hc1]), hbr.drew⟩
        · go_wp2_with fail
          (refine wp_region_still_lit (by kernel_rfl) (by kernel_rfl) ?_; refine StillH.out ?_; (repeat (refine still_h (fun K hK => ?_); go_simp; refine hK _ ?_; clear hK K)); refine still_end ?_)
          go_wp2_with fail
          go_roundw
          case measure => simp [intOf]; omega
          case rel => exact ⟨k + 1, c, by omega, by go_num, .inr ⟨by omega, HCL.out⟩, Lib.hid (by rw [HD.out, HC.out]; simp [risL, hc1]), hbr.drew⟩
    · obtain rfl : k = l.length := by omega
      go_wp2_with fail
      go_ret
      exact ⟨ret_bool (by rw [← HE.out, HD.out]; simp [risL]), hbr⟩
end Go.Proofs.Ytdkndcmjcmeddaa
