/- PlateTorn, walked. -/
import Derived.Test.YtbgdkpgegbkfkaaPl8
import Derived.Deep.QuietTactic
import Derived.IntWalk
namespace Go.Proofs.Ytbgdkpgegbkfkaa
open Go.RowKit Lift
set_option linter.unusedSimpArgs false
set_option linter.unusedVariables false

theorem pad_get (s : ByteArray) (i : Nat) (h : s.size ≤ 64) (hi : i < 64) : (pad s).getD i 0 = if h : i < s.size then s[i] else 0 := by
  unfold pad
  rw [List.getD_eq_getElem?_getD]
  by_cases h1 : i < s.size
  · rw [List.getElem?_append_left (by simpa using h1), dif_pos h1]
    rw [List.getElem?_eq_getElem (by simpa using h1)]
    rfl
  · rw [List.getElem?_append_right (by simp; omega), dif_neg h1, List.getElem?_replicate]
    split <;> rfl
def nb (s : ByteArray) (i : Nat) : UInt8 := (pad s).getD i 0
set_option maxHeartbeats 1000000 in
set_option maxRecDepth 100000 in
theorem byteOf_any (s : ByteArray) (i : Nat) (h : s.size ≤ 64) (hi : i < 64) (w : World) : Calls Try.prog 12 #[.string s, .int .i64 (i : Int)] w (IntPost .u8 (nb s i).toNat w) := by
  unfold nb
  rw [pad_get s i h hi]
  by_cases h1 : i < s.size
  · rw [dif_pos h1]
    have h2 : (i : Int) < (s.size : Int) := by omega
    go_enter Try.func12, Try.ntmps12
    go_wp2_with fail
    go_ret
    exact ⟨rfl, rfl⟩
  · rw [dif_neg h1]
    have h2 : decide ((i : Int) < (s.size : Int)) = false := by simp; omega
    have h2 : ¬ (i : Int) < (s.size : Int) := by omega
    go_enter Try.func12, Try.ntmps12
    go_wp2_with fail
    go_ret
    exact ⟨rfl, rfl⟩
theorem byteOf_q (s : ByteArray) (i : Nat) (h : s.size ≤ 64) (hi : i < 64) (w : World) : Calls Try.prog 12 #[.string s, .int .i64 (i : Int)] w (fun e w' => e = .returned (.int .u8 (nb s i).toNat) ∧ w' = w) :=
  (byteOf_any s i h hi w).mono fun _ _ ⟨a, b⟩ => ⟨a, b.symm⟩

/-! ### What the calls compute -/
def tS1 (o : ByteArray) : St := { su := [zer, zer, zer], no := [zer, pad o, zer], lo := [(1, pad o)], fu := -1, off := false }
def tS2 (o : ByteArray) : St := { su := [zer, pad o, zer], no := [zer, pad o, zer], lo := [], fu := -1, off := false }
def tS3 (o s : ByteArray) : St := { su := [zer, pad o, zer], no := [zer, pad s, zer], lo := [(1, pad s)], fu := -1, off := false }
def tX (o s : ByteArray) (k : Int) : List UInt8 := tear (pad o) (pad s) (kOf [k] 0)
theorem t_1 (o : ByteArray) (h : o.size ≤ 64) : putS (St.new 3) 1 o = tS1 o ∧ putE (St.new 3) 1 o = 0 := by
  have h2 : ¬ 64 < o.size := by omega
  have h0 : thereE (St.new 3) 1 = 0 := by decide
  have h3 : burnE (St.new 3) = 0 := by decide
  have h4 : burnS (St.new 3) = St.new 3 := by rfl
  unfold putS putE
  simp only [h0, h2, h3, h4, if_true, if_false]
  exact ⟨rfl, trivial⟩
theorem t_2 (o : ByteArray) : syncS (tS1 o) = tS2 o ∧ syncE (tS1 o) = 0 := ⟨rfl, rfl⟩
theorem t_3 (o s : ByteArray) (h : s.size ≤ 64) : putS (tS2 o) 1 s = tS3 o s ∧ putE (tS2 o) 1 s = 0 := by
  have h2 : ¬ 64 < s.size := by omega
  have h0 : thereE (tS2 o) 1 = 0 := by rfl
  have h3 : burnE (tS2 o) = 0 := by rfl
  have h4 : burnS (tS2 o) = tS2 o := by rfl
  unfold putS putE
  simp only [h0, h2, h3, h4, if_true, if_false]
  exact ⟨rfl, trivial⟩
theorem t_4 (o s : ByteArray) (k : Int) : getV (crashS (tS3 o s) [k]) 1 = .tuple #[.string ⟨(tX o s k).toArray⟩, .int .i64 0] := by rfl

/-- What the law looks at: bytes that are partly of one text, partly of the other. -/
def Parts (x N O : Nat → UInt8) : Prop := (∃ k, k ≤ 64 ∧ (∀ i, i < k → x i = N i) ∧ ∀ i, k ≤ i → i < 64 → x i = O i) ∨ (∃ f, f ≤ 64 ∧ (∀ i, i < f → x i = O i) ∧ ∀ i, f ≤ i → i < 64 → x i = N i)
theorem t_parts (o s : ByteArray) (k : Int) (ho : o.size ≤ 64) (hs : s.size ≤ 64) : (tX o s k).length = 64 ∧ Parts (fun i => (tX o s k).getD i 0) (nb s) (nb o) := by
  have h1 := pad_len ho
  have h2 := pad_len hs
  have hk := kOf_le [k] 0
  unfold tX
  generalize kOf [k] 0 = kk at hk
  refine ⟨tear_len h1 h2, ?_⟩
  unfold tear
  split
  · refine .inl ⟨kk, by omega, fun i hi => ?_, fun i hi hi2 => ?_⟩
    · simp only [nb, List.getD_eq_getElem?_getD]
      rw [List.getElem?_append_left (by simp; omega), List.getElem?_take_of_lt hi]
    · simp only [nb, List.getD_eq_getElem?_getD]
      rw [List.getElem?_append_right (by simp; omega), List.getElem?_drop]
      rw [List.length_take, h2, show kk + (i - min kk 64) = i by omega]
  · refine .inr ⟨128 - kk, by omega, fun i hi => ?_, fun i hi hi2 => ?_⟩
    · simp only [nb, List.getD_eq_getElem?_getD]
      rw [List.getElem?_append_left (by simp; omega), List.getElem?_take_of_lt hi]
    · simp only [nb, List.getD_eq_getElem?_getD]
      rw [List.getElem?_append_right (by simp; omega), List.getElem?_drop]
      rw [List.length_take, h1, show 128 - kk + (i - min (128 - kk) 64) = i by omega]

theorem torn_end {x N O : Nat → UInt8} (h : Parts x N O) {f l : Nat} (hf : f ≤ 64) (hl : l ≤ 64) (h1 : f < 64 → x f ≠ N f) (h2 : l < 64 → x (63 - l) ≠ N (63 - l)) :
    (∀ i, f ≤ i → i < 64 → x i = O i) ∨ ∀ i, i < 64 - l → x i = O i := by
  rcases h with ⟨k, hk, ha, hb⟩ | ⟨k, hk, ha, hb⟩
  · left
    intro i hi hi2
    refine hb i ?_ hi2
    apply Nat.le_of_not_lt
    intro hlt
    exact h1 (by omega) (ha f (by omega))
  · right
    intro i hi
    refine ha i ?_
    apply Nat.lt_of_not_le
    intro hle
    exact h2 (by omega) (hb (63 - l) (by omega) (by omega))
theorem u8_eq {a b : UInt8} : ((a.toNat : Int) == (b.toNat : Int)) = decide (a = b) := by
  rw [Bool.eq_iff_iff]; simp [UInt8.toNat_inj, Int.ofNat_inj]
theorem u8_ne {a b : UInt8} : ((a.toNat : Int) != (b.toNat : Int)) = decide (a ≠ b) := by
  rw [Bool.eq_iff_iff]; simp [UInt8.toNat_inj, Int.ofNat_inj]
theorem get_bytes (d : List UInt8) (i : Nat) (h : i < (⟨d.toArray⟩ : ByteArray).size) : (⟨d.toArray⟩ : ByteArray)[i] = d.getD i 0 := by
  have : i < d.length := h
  simp [List.getD_eq_getElem?_getD, this]
  rfl
theorem torn_put1 {base b : Nat} {w : World} {o : ByteArray} (ho : o.size ≤ 64) (h : Pl base w b (St.new 3)) : Calls Try.prog 8 #[.pointer (some ⟨b, 0, none⟩), .int .i64 1, .string o] w (PlV base b (tS1 o) (.int .i64 0) w) := by
  have := pl_put h 1 o (by unfold maxTx; omega) (by decide)
  rwa [(t_1 o ho).1, (t_1 o ho).2] at this
theorem torn_sync {base b : Nat} {w : World} {o : ByteArray} (h : Pl base w b (tS1 o)) : Calls Try.prog 9 #[.pointer (some ⟨b, 0, none⟩)] w (PlV base b (tS2 o) (.int .i64 0) w) := by
  have := pl_sync h (by simp [tS1])
  rwa [(t_2 o).1, (t_2 o).2] at this
theorem torn_put2 {base b : Nat} {w : World} {o s : ByteArray} (hs : s.size ≤ 64) (h : Pl base w b (tS2 o)) : Calls Try.prog 8 #[.pointer (some ⟨b, 0, none⟩), .int .i64 1, .string s] w (PlV base b (tS3 o s) (.int .i64 0) w) := by
  have := pl_put h 1 s (by unfold maxTx; omega) (by simp [tS2])
  rwa [(t_3 o s hs).1, (t_3 o s hs).2] at this
theorem torn_get {base b : Nat} {w : World} {o s : ByteArray} {k : Int} {v : Value} (hv : getV (crashS (tS3 o s) [k]) 1 = v) (h : Pl base w b (crashS (tS3 o s) [k])) : Calls Try.prog 11 #[.pointer (some ⟨b, 0, none⟩), .int .i64 1] w (fun e w' => e = .returned v ∧ w = w') := by
  have := pl_get h 1
  rwa [hv] at this
def Inv3 (d : List UInt8) (o : ByteArray) (f l : Nat) (p q : Bool) : Prop := ((∀ i, f ≤ i → i < 64 → d.getD i 0 = nb o i) → p = true) ∧ ((∀ i, i < l → d.getD i 0 = nb o i) → q = true)
theorem inv3_step {d : List UInt8} {o : ByteArray} {f l i : Nat} {p q : Bool} (h : Inv3 d o f l p q) (hi : i < 64) :
    Inv3 d o f l (if decide (f ≤ i) && decide (d.getD i 0 ≠ nb o i) then false else p) (if decide (i < l) && decide (d.getD i 0 ≠ nb o i) then false else q) := by
  refine ⟨fun hA => ?_, fun hB => ?_⟩
  · rw [if_neg ?_]
    · exact h.1 hA
    · simp only [Bool.and_eq_true, decide_eq_true_eq, not_and]
      intro h1 h2
      exact h2 (hA i h1 hi)
  · rw [if_neg ?_]
    · exact h.2 hB
    · simp only [Bool.and_eq_true, decide_eq_true_eq, not_and]
      intro h1 h2
      exact h2 (hB i h1)
theorem inv3_end {d : List UInt8} {o : ByteArray} {f l : Nat} {p q : Bool} (h : Inv3 d o f l p q) (he : (∀ i, f ≤ i → i < 64 → d.getD i 0 = nb o i) ∨ ∀ i, i < l → d.getD i 0 = nb o i) : (p || q) = true := by
  rcases he with he | he
  · rw [h.1 he]; rfl
  · rw [h.2 he]; simp
set_option maxHeartbeats 8000000 in
set_option maxRecDepth 100000 in
theorem law_torn (o s : ByteArray) (k : Int) (hk : Wf k) (w : World) : Calls Try.prog 3 #[.string o, .string s, .int .i64 k] w (TruePost w) := by
  have HW := Lib.hid (works_true w)
  by_cases ho : o.size ≤ 64
  · by_cases hs : s.size ≤ 64
    · have hd1 : decide ((64 : Int) < (o.size : Int)) = false := by simp; omega
      have hd2 : decide ((64 : Int) < (s.size : Int)) = false := by simp; omega
      obtain ⟨hx64, hparts⟩ := t_parts o s k ho hs
      have HT4 := Lib.hid (t_4 o s k)
      generalize tX o s k = d at *
      have HP := Lib.hid hparts
      have HX := Lib.hid hx64
      clear hparts
      obtain ⟨X, hX⟩ : ∃ X : ByteArray, (⟨d.toArray⟩ : ByteArray) = X := ⟨_, rfl⟩
      have hXs : X.size = 64 := by rw [← hX]; exact hx64
      have HG := Lib.hid (show ∀ i (h : i < X.size), X[i] = d.getD i 0 by subst hX; exact get_bytes d)
      rw [hX] at HT4
      clear hX hx64
      have hXs2 : (X.size : Int) = 64 := by omega
      have HXS := Lib.hid hXs
      clear hXs
      go_enter Try.func3, Try.ntmps3
      go_wp2_with (first
        | ((with_reducible refine (HW.out).mono ?_); rintro e w0 ⟨rfl, hB0⟩)
        | ((with_reducible refine (pl_new w0 3 3 rfl (by omega) (by omega)).mono ?_); rintro e w1 ⟨b, rfl, hP1, hB1⟩)
        | ((with_reducible refine (torn_put1 ho hP1).mono ?_); rintro e w2 ⟨rfl, hP2, hB2⟩)
        | ((with_reducible refine (torn_sync hP2).mono ?_); rintro e w3 ⟨rfl, hP3, hB3⟩)
        | ((with_reducible refine (torn_put2 hs hP3).mono ?_); rintro e w4 ⟨rfl, hP4, hB4⟩)
        | (go_at_call 10; refine (pl_crash1 hP4 (by simp [tS3]) k hk _ rfl).mono ?_; rintro e w5 ⟨rfl, hP5, hB5⟩)
        | ((with_reducible refine (torn_get HT4.out hP5).mono ?_); rintro e w6 ⟨rfl, rfl⟩))
      have hB := ((((hB0.trans (hB1.mono hB0.size)).trans (hB2.mono hB0.size)).trans (hB3.mono hB0.size)).trans (hB4.mono hB0.size)).trans (hB5.mono hB0.size)
      clear hP1 hP2 hP3 hP4 hP5 hB1 hB2 hB3 hB4 hB5 hd1 hd2
      go_loopw [11] (fun v11 wr => ∃ f : Nat, f ≤ 64 ∧ v11 = .int .i64 f ∧ Below w.heap.size w wr) (fun v11 _ => 64 - (intOf v11).toNat)
      case atStart => exact ⟨0, by omega, rfl, hB⟩
      case round =>
        clear hB
        obtain ⟨f, hf, rfl, hB⟩ := hrel
        by_cases hgo : f < 64 ∧ d.getD f 0 = nb s f
        · obtain ⟨hlt, heq⟩ := hgo
          have hlt2 : (f : Int) < 64 := by omega
          have hlx : f < X.size := by have := HXS.out; omega
          have hlx2 : (f : Int) < (X.size : Int) := by omega
          have hq : ((X[f].toNat : Int) == ((nb s f).toNat : Int)) = true := by rw [u8_eq, HG.out f hlx]; simpa using heq
          clear heq
          go_wp2_with fail
          (refine wp_region_quiet_lit (by kernel_rfl) (by kernel_rfl) ?_; (repeat (any_goals (first | go_big_quiet_step ((go_at_call 12; exact Calls.quiet_of_same (byteOf_q s f hs hlt _))) | quiet_step ((go_at_call 12; exact Calls.quiet_of_same (byteOf_q s f hs hlt _))) | (refine wpQuiet_step (fun K hK => ?_); go_simp; split <;> (refine hK _ ?_; clear hK K))))); all_goals (refine wpQuiet_nil ?_; intro _ hw'; obtain ⟨nq, hw''⟩ := hw'; subst hw''))
          go_wp2_with fail
          go_roundw
          case measure => simp [intOf]; omega
          case rel => exact ⟨f + 1, by omega, by go_num, (by first | exact Below.refl _ _ | ((repeat (refine bN _ ?_)); first | exact Below.refl _ _ | go_grown))⟩
        · have E1 := Lib.hid (show f < 64 → d.getD f 0 ≠ nb s f from fun a b => hgo ⟨a, b⟩)
          have hcase : (64 ≤ f) ∨ (f < 64 ∧ Hid (d.getD f 0 ≠ nb s f)) := by
            by_cases h : f < 64
            · exact .inr ⟨h, Lib.hid (E1.out h)⟩
            · exact .inl (by omega)
          clear hgo
          rcases hcase with hge | ⟨hlt, hne⟩
          · have hge2 : ¬ (f : Int) < 64 := by omega
            have hge3 : decide ((f : Int) < 64) = false := by simp; omega
            go_wp2_with fail
            (refine wp_region_quiet_lit (by kernel_rfl) (by kernel_rfl) ?_; (repeat (any_goals (first | go_big_quiet_step (fail) | quiet_step (fail) | (refine wpQuiet_step (fun K hK => ?_); go_simp; split <;> (refine hK _ ?_; clear hK K))))); all_goals (refine wpQuiet_nil ?_; intro _ hw'; obtain ⟨nq, hw''⟩ := hw'; subst hw''))
            clear hge2 hge3 hge
            go_wp2_with fail
            go_loopw [12] (fun v12 wr => ∃ l : Nat, l ≤ 64 ∧ v12 = .int .i64 l ∧ Below w.heap.size w wr) (fun v12 _ => 64 - (intOf v12).toNat)
            case atStart => exact ⟨0, by omega, rfl, (by first | exact Below.refl _ _ | ((repeat (refine bN _ ?_)); first | exact Below.refl _ _ | go_grown))⟩
            case round =>
              clear hB
              obtain ⟨l, hl, rfl, hB⟩ := hrel
              by_cases hgo : l < 64 ∧ d.getD (63 - l) 0 = nb s (63 - l)
              · obtain ⟨hlt, heq⟩ := hgo
                obtain ⟨m, hm⟩ : ∃ m, 63 - l = m := ⟨_, rfl⟩

                rw [hm] at heq
                have hlt2 : (l : Int) < 64 := by omega
                have hwr : IntKind.i64.wrap ((63 : Int) - (l : Int)) = (m : Int) := by rw [IntWalk.i64_in _ (by omega)]; omega
                have hlx : m < X.size := by have := HXS.out; omega
                have hm64 : m < 64 := by omega
                have hm64i : (m : Int) < 64 := by omega
                have hlx2 : (m : Int) < (X.size : Int) := by omega
                have hq : ((X[m].toNat : Int) == ((nb s m).toNat : Int)) = true := by rw [u8_eq, HG.out m hlx]; simpa using heq
                clear heq hm
                go_wp2_with fail
                (refine wp_region_quiet_lit (by kernel_rfl) (by kernel_rfl) ?_; (repeat (any_goals (first | go_big_quiet_step ((go_at_call 12; exact Calls.quiet_of_same (byteOf_q s m hs hm64 _))) | quiet_step ((go_at_call 12; exact Calls.quiet_of_same (byteOf_q s m hs hm64 _))) | (refine wpQuiet_step (fun K hK => ?_); go_simp; split <;> (refine hK _ ?_; clear hK K))))); all_goals (refine wpQuiet_nil ?_; intro _ hw'; obtain ⟨nq, hw''⟩ := hw'; subst hw''))
                go_wp2_with fail
                go_roundw
                case measure => simp [intOf]; omega
                case rel => exact ⟨l + 1, by omega, by go_num, (by first | exact Below.refl _ _ | ((repeat (refine bN _ ?_)); first | exact Below.refl _ _ | go_grown))⟩
              · have E2 := Lib.hid (show l < 64 → d.getD (63 - l) 0 ≠ nb s (63 - l) from fun a b => hgo ⟨a, b⟩)
                clear hgo
                have HEND := Lib.hid (torn_end HP.out hf hl E1.out E2.out)
                rcases Nat.lt_or_ge l 64 with hlt | hge
                · obtain ⟨m, hm⟩ : ∃ m, 63 - l = m := ⟨_, rfl⟩

                  have hne := E2.out hlt
                  rw [hm] at hne
                  have hlt2 : (l : Int) < 64 := by omega
                  have hwr : IntKind.i64.wrap ((63 : Int) - (l : Int)) = (m : Int) := by rw [IntWalk.i64_in _ (by omega)]; omega
                  have hlx : m < X.size := by have := HXS.out; omega
                  have hm64 : m < 64 := by omega
                  have hm64i : (m : Int) < 64 := by omega
                  have hlx2 : (m : Int) < (X.size : Int) := by omega
                  have hq : ((X[m].toNat : Int) == ((nb s m).toNat : Int)) = false := by rw [u8_eq, HG.out m hlx]; simpa using hne
                  clear hne hm
                  go_wp2_with fail
                  (refine wp_region_quiet_lit (by kernel_rfl) (by kernel_rfl) ?_; (repeat (any_goals (first | go_big_quiet_step ((go_at_call 12; exact Calls.quiet_of_same (byteOf_q s m hs hm64 _))) | quiet_step ((go_at_call 12; exact Calls.quiet_of_same (byteOf_q s m hs hm64 _))) | (refine wpQuiet_step (fun K hK => ?_); go_simp; split <;> (refine hK _ ?_; clear hK K))))); all_goals (refine wpQuiet_nil ?_; intro _ hw'; obtain ⟨nq, hw''⟩ := hw'; subst hw''))
                  clear hwr hq
                  go_wp2_with fail
                  obtain ⟨l2, hl2⟩ : ∃ l2, 64 - l = l2 := ⟨_, rfl⟩
                  have HEND2 := Lib.hid (show (∀ i, f ≤ i → i < 64 → d.getD i 0 = nb o i) ∨ ∀ i, i < l2 → d.getD i 0 = nb o i by rw [← hl2]; exact HEND.out)
                  have hwr2 : IntKind.i64.wrap ((64 : Int) - (l : Int)) = (l2 : Int) := by rw [IntWalk.i64_in _ (by omega)]; omega
                  have hl264 : l2 ≤ 64 := by omega
                  clear HEND hl2
                  go_loopw [13, 14, 15] (fun v13 v14 v15 wr => ∃ (i : Nat) (p q : Bool), i ≤ 64 ∧ v15 = .int .i64 i ∧ v13 = .bool p ∧ v14 = .bool q ∧ Hid (Inv3 d o f l2 p q) ∧ Below w.heap.size w wr) (fun _ _ v15 _ => 64 - (intOf v15).toNat)
                  case atStart => exact ⟨0, true, true, by omega, rfl, rfl, rfl, Lib.hid ⟨fun _ => rfl, fun _ => rfl⟩, (by first | exact Below.refl _ _ | ((repeat (refine bN _ ?_)); first | exact Below.refl _ _ | go_grown))⟩
                  case round =>
                    clear hB
                    obtain ⟨i, p, q, hi, rfl, rfl, rfl, hI, hB⟩ := hrel
                    by_cases hi64 : i < 64
                    · have hi2 : (i : Int) < 64 := by omega
                      have hix : i < X.size := by have := HXS.out; omega
                      have hix2 : (i : Int) < (X.size : Int) := by omega
                      have HN := Lib.hid (inv3_step hI.out hi64)
                      have hxe := HG.out i hix
                      have hc1 : decide (f ≤ i) = true ∨ decide (f ≤ i) = false := by cases decide (f ≤ i) <;> simp
                      have hc2 : decide (i < l2) = true ∨ decide (i < l2) = false := by cases decide (i < l2) <;> simp
                      have hc3 : ((X[i].toNat : Int) != ((nb o i).toNat : Int)) = true ∨ ((X[i].toNat : Int) != ((nb o i).toNat : Int)) = false := by cases ((X[i].toNat : Int) != ((nb o i).toNat : Int)) <;> simp
                      have HC := Lib.hid (show ((X[i].toNat : Int) != ((nb o i).toNat : Int)) = decide (d.getD i 0 ≠ nb o i) by rw [u8_ne, hxe])
                      clear hxe
                      rcases hc1 with hc1 | hc1 <;> rcases hc2 with hc2 | hc2 <;> rcases hc3 with hc3 | hc3
                      all_goals
                        go_wp2_with fail
                        (refine wp_region_quiet_lit (by kernel_rfl) (by kernel_rfl) ?_; (repeat (any_goals (first | go_big_quiet_step ((go_at_call 12; exact Calls.quiet_of_same (byteOf_q o i ho hi64 _))) | quiet_step ((go_at_call 12; exact Calls.quiet_of_same (byteOf_q o i ho hi64 _))) | (refine wpQuiet_step (fun K hK => ?_); go_simp; split <;> (refine hK _ ?_; clear hK K))))); all_goals (refine wpQuiet_nil ?_; intro _ hw'; obtain ⟨nq, hw''⟩ := hw'; subst hw''))
                        have hBq := bN nq hB
                        generalize wr.drewN nq = wz at *
                        go_wp2_with fail
                        (refine wp_region_quiet_lit (by kernel_rfl) (by kernel_rfl) ?_; (repeat (any_goals (first | go_big_quiet_step ((go_at_call 12; exact Calls.quiet_of_same (byteOf_q o i ho hi64 _))) | quiet_step ((go_at_call 12; exact Calls.quiet_of_same (byteOf_q o i ho hi64 _))) | (refine wpQuiet_step (fun K hK => ?_); go_simp; split <;> (refine hK _ ?_; clear hK K))))); all_goals (refine wpQuiet_nil ?_; intro _ hw'; obtain ⟨nq, hw''⟩ := hw'; subst hw''))
                        go_wp2_with fail
                        go_roundw
                        case measure => simp [intOf]; omega
                        case rel => exact ⟨i + 1, _, _, by omega, by go_num, rfl, rfl, Lib.hid (by have h := HN.out; rw [← HC.out, hc1, hc2, hc3] at h; simpa using h), (by first | exact Below.refl _ _ | ((repeat (refine bN _ ?_)); first | exact Below.refl _ _ | go_grown))⟩
                    · have hi2 : ¬ (i : Int) < 64 := by omega
                      have HZ := Lib.hid (inv3_end hI.out HEND2.out)
                      cases p
                      · obtain rfl : q = true := by simpa using HZ.out
                        go_wp2_with fail
                        go_ret
                        exact ⟨rfl, hB⟩
                      · go_wp2_with fail
                        go_ret
                        exact ⟨rfl, hB⟩
                · have hge2 : ¬ (l : Int) < 64 := by omega
                  have hge3 : decide ((l : Int) < 64) = false := by simp; omega
                  go_wp2_with fail
                  (refine wp_region_quiet_lit (by kernel_rfl) (by kernel_rfl) ?_; (repeat (any_goals (first | go_big_quiet_step (fail) | quiet_step (fail) | (refine wpQuiet_step (fun K hK => ?_); go_simp; split <;> (refine hK _ ?_; clear hK K))))); all_goals (refine wpQuiet_nil ?_; intro _ hw'; obtain ⟨nq, hw''⟩ := hw'; subst hw''))
                  go_wp2_with fail
                  obtain ⟨l2, hl2⟩ : ∃ l2, 64 - l = l2 := ⟨_, rfl⟩
                  have HEND2 := Lib.hid (show (∀ i, f ≤ i → i < 64 → d.getD i 0 = nb o i) ∨ ∀ i, i < l2 → d.getD i 0 = nb o i by rw [← hl2]; exact HEND.out)
                  have hwr2 : IntKind.i64.wrap ((64 : Int) - (l : Int)) = (l2 : Int) := by rw [IntWalk.i64_in _ (by omega)]; omega
                  have hl264 : l2 ≤ 64 := by omega
                  clear HEND hl2
                  go_loopw [13, 14, 15] (fun v13 v14 v15 wr => ∃ (i : Nat) (p q : Bool), i ≤ 64 ∧ v15 = .int .i64 i ∧ v13 = .bool p ∧ v14 = .bool q ∧ Hid (Inv3 d o f l2 p q) ∧ Below w.heap.size w wr) (fun _ _ v15 _ => 64 - (intOf v15).toNat)
                  case atStart => exact ⟨0, true, true, by omega, rfl, rfl, rfl, Lib.hid ⟨fun _ => rfl, fun _ => rfl⟩, (by first | exact Below.refl _ _ | ((repeat (refine bN _ ?_)); first | exact Below.refl _ _ | go_grown))⟩
                  case round =>
                    clear hB
                    obtain ⟨i, p, q, hi, rfl, rfl, rfl, hI, hB⟩ := hrel
                    by_cases hi64 : i < 64
                    · have hi2 : (i : Int) < 64 := by omega
                      have hix : i < X.size := by have := HXS.out; omega
                      have hix2 : (i : Int) < (X.size : Int) := by omega
                      have HN := Lib.hid (inv3_step hI.out hi64)
                      have hxe := HG.out i hix
                      have hc1 : decide (f ≤ i) = true ∨ decide (f ≤ i) = false := by cases decide (f ≤ i) <;> simp
                      have hc2 : decide (i < l2) = true ∨ decide (i < l2) = false := by cases decide (i < l2) <;> simp
                      have hc3 : ((X[i].toNat : Int) != ((nb o i).toNat : Int)) = true ∨ ((X[i].toNat : Int) != ((nb o i).toNat : Int)) = false := by cases ((X[i].toNat : Int) != ((nb o i).toNat : Int)) <;> simp
                      have HC := Lib.hid (show ((X[i].toNat : Int) != ((nb o i).toNat : Int)) = decide (d.getD i 0 ≠ nb o i) by rw [u8_ne, hxe])
                      clear hxe
                      rcases hc1 with hc1 | hc1 <;> rcases hc2 with hc2 | hc2 <;> rcases hc3 with hc3 | hc3
                      all_goals
                        go_wp2_with fail
                        (refine wp_region_quiet_lit (by kernel_rfl) (by kernel_rfl) ?_; (repeat (any_goals (first | go_big_quiet_step ((go_at_call 12; exact Calls.quiet_of_same (byteOf_q o i ho hi64 _))) | quiet_step ((go_at_call 12; exact Calls.quiet_of_same (byteOf_q o i ho hi64 _))) | (refine wpQuiet_step (fun K hK => ?_); go_simp; split <;> (refine hK _ ?_; clear hK K))))); all_goals (refine wpQuiet_nil ?_; intro _ hw'; obtain ⟨nq, hw''⟩ := hw'; subst hw''))
                        have hBq := bN nq hB
                        generalize wr.drewN nq = wz at *
                        go_wp2_with fail
                        (refine wp_region_quiet_lit (by kernel_rfl) (by kernel_rfl) ?_; (repeat (any_goals (first | go_big_quiet_step ((go_at_call 12; exact Calls.quiet_of_same (byteOf_q o i ho hi64 _))) | quiet_step ((go_at_call 12; exact Calls.quiet_of_same (byteOf_q o i ho hi64 _))) | (refine wpQuiet_step (fun K hK => ?_); go_simp; split <;> (refine hK _ ?_; clear hK K))))); all_goals (refine wpQuiet_nil ?_; intro _ hw'; obtain ⟨nq, hw''⟩ := hw'; subst hw''))
                        go_wp2_with fail
                        go_roundw
                        case measure => simp [intOf]; omega
                        case rel => exact ⟨i + 1, _, _, by omega, by go_num, rfl, rfl, Lib.hid (by have h := HN.out; rw [← HC.out, hc1, hc2, hc3] at h; simpa using h), (by first | exact Below.refl _ _ | ((repeat (refine bN _ ?_)); first | exact Below.refl _ _ | go_grown))⟩
                    · have hi2 : ¬ (i : Int) < 64 := by omega
                      have HZ := Lib.hid (inv3_end hI.out HEND2.out)
                      cases p
                      · obtain rfl : q = true := by simpa using HZ.out
                        go_wp2_with fail
                        go_ret
                        exact ⟨rfl, hB⟩
                      · go_wp2_with fail
                        go_ret
                        exact ⟨rfl, hB⟩
          · have hlt2 : (f : Int) < 64 := by omega
            have hlx : f < X.size := by have := HXS.out; omega
            have hlx2 : (f : Int) < (X.size : Int) := by omega
            have hq : ((X[f].toNat : Int) == ((nb s f).toNat : Int)) = false := by rw [u8_eq, HG.out f hlx]; simpa using hne.out
            go_wp2_with fail
            (refine wp_region_quiet_lit (by kernel_rfl) (by kernel_rfl) ?_; (repeat (any_goals (first | go_big_quiet_step ((go_at_call 12; exact Calls.quiet_of_same (byteOf_q s f hs hlt _))) | quiet_step ((go_at_call 12; exact Calls.quiet_of_same (byteOf_q s f hs hlt _))) | (refine wpQuiet_step (fun K hK => ?_); go_simp; split <;> (refine hK _ ?_; clear hK K))))); all_goals (refine wpQuiet_nil ?_; intro _ hw'; obtain ⟨nq, hw''⟩ := hw'; subst hw''))
            clear hq hlx hlx2 hne
            go_wp2_with fail
            go_loopw [12] (fun v12 wr => ∃ l : Nat, l ≤ 64 ∧ v12 = .int .i64 l ∧ Below w.heap.size w wr) (fun v12 _ => 64 - (intOf v12).toNat)
            case atStart => exact ⟨0, by omega, rfl, (by first | exact Below.refl _ _ | ((repeat (refine bN _ ?_)); first | exact Below.refl _ _ | go_grown))⟩
            case round =>
              clear hB
              obtain ⟨l, hl, rfl, hB⟩ := hrel
              by_cases hgo : l < 64 ∧ d.getD (63 - l) 0 = nb s (63 - l)
              · obtain ⟨hlt, heq⟩ := hgo
                obtain ⟨m, hm⟩ : ∃ m, 63 - l = m := ⟨_, rfl⟩

                rw [hm] at heq
                have hlt2 : (l : Int) < 64 := by omega
                have hwr : IntKind.i64.wrap ((63 : Int) - (l : Int)) = (m : Int) := by rw [IntWalk.i64_in _ (by omega)]; omega
                have hlx : m < X.size := by have := HXS.out; omega
                have hm64 : m < 64 := by omega
                have hm64i : (m : Int) < 64 := by omega
                have hlx2 : (m : Int) < (X.size : Int) := by omega
                have hq : ((X[m].toNat : Int) == ((nb s m).toNat : Int)) = true := by rw [u8_eq, HG.out m hlx]; simpa using heq
                clear heq hm
                go_wp2_with fail
                (refine wp_region_quiet_lit (by kernel_rfl) (by kernel_rfl) ?_; (repeat (any_goals (first | go_big_quiet_step ((go_at_call 12; exact Calls.quiet_of_same (byteOf_q s m hs hm64 _))) | quiet_step ((go_at_call 12; exact Calls.quiet_of_same (byteOf_q s m hs hm64 _))) | (refine wpQuiet_step (fun K hK => ?_); go_simp; split <;> (refine hK _ ?_; clear hK K))))); all_goals (refine wpQuiet_nil ?_; intro _ hw'; obtain ⟨nq, hw''⟩ := hw'; subst hw''))
                go_wp2_with fail
                go_roundw
                case measure => simp [intOf]; omega
                case rel => exact ⟨l + 1, by omega, by go_num, (by first | exact Below.refl _ _ | ((repeat (refine bN _ ?_)); first | exact Below.refl _ _ | go_grown))⟩
              · have E2 := Lib.hid (show l < 64 → d.getD (63 - l) 0 ≠ nb s (63 - l) from fun a b => hgo ⟨a, b⟩)
                clear hgo
                have HEND := Lib.hid (torn_end HP.out hf hl E1.out E2.out)
                rcases Nat.lt_or_ge l 64 with hlt | hge
                · obtain ⟨m, hm⟩ : ∃ m, 63 - l = m := ⟨_, rfl⟩

                  have hne := E2.out hlt
                  rw [hm] at hne
                  have hlt2 : (l : Int) < 64 := by omega
                  have hwr : IntKind.i64.wrap ((63 : Int) - (l : Int)) = (m : Int) := by rw [IntWalk.i64_in _ (by omega)]; omega
                  have hlx : m < X.size := by have := HXS.out; omega
                  have hm64 : m < 64 := by omega
                  have hm64i : (m : Int) < 64 := by omega
                  have hlx2 : (m : Int) < (X.size : Int) := by omega
                  have hq : ((X[m].toNat : Int) == ((nb s m).toNat : Int)) = false := by rw [u8_eq, HG.out m hlx]; simpa using hne
                  clear hne hm
                  go_wp2_with fail
                  (refine wp_region_quiet_lit (by kernel_rfl) (by kernel_rfl) ?_; (repeat (any_goals (first | go_big_quiet_step ((go_at_call 12; exact Calls.quiet_of_same (byteOf_q s m hs hm64 _))) | quiet_step ((go_at_call 12; exact Calls.quiet_of_same (byteOf_q s m hs hm64 _))) | (refine wpQuiet_step (fun K hK => ?_); go_simp; split <;> (refine hK _ ?_; clear hK K))))); all_goals (refine wpQuiet_nil ?_; intro _ hw'; obtain ⟨nq, hw''⟩ := hw'; subst hw''))
                  clear hwr hq
                  go_wp2_with fail
                  obtain ⟨l2, hl2⟩ : ∃ l2, 64 - l = l2 := ⟨_, rfl⟩
                  have HEND2 := Lib.hid (show (∀ i, f ≤ i → i < 64 → d.getD i 0 = nb o i) ∨ ∀ i, i < l2 → d.getD i 0 = nb o i by rw [← hl2]; exact HEND.out)
                  have hwr2 : IntKind.i64.wrap ((64 : Int) - (l : Int)) = (l2 : Int) := by rw [IntWalk.i64_in _ (by omega)]; omega
                  have hl264 : l2 ≤ 64 := by omega
                  clear HEND hl2
                  go_loopw [13, 14, 15] (fun v13 v14 v15 wr => ∃ (i : Nat) (p q : Bool), i ≤ 64 ∧ v15 = .int .i64 i ∧ v13 = .bool p ∧ v14 = .bool q ∧ Hid (Inv3 d o f l2 p q) ∧ Below w.heap.size w wr) (fun _ _ v15 _ => 64 - (intOf v15).toNat)
                  case atStart => exact ⟨0, true, true, by omega, rfl, rfl, rfl, Lib.hid ⟨fun _ => rfl, fun _ => rfl⟩, (by first | exact Below.refl _ _ | ((repeat (refine bN _ ?_)); first | exact Below.refl _ _ | go_grown))⟩
                  case round =>
                    clear hB
                    obtain ⟨i, p, q, hi, rfl, rfl, rfl, hI, hB⟩ := hrel
                    by_cases hi64 : i < 64
                    · have hi2 : (i : Int) < 64 := by omega
                      have hix : i < X.size := by have := HXS.out; omega
                      have hix2 : (i : Int) < (X.size : Int) := by omega
                      have HN := Lib.hid (inv3_step hI.out hi64)
                      have hxe := HG.out i hix
                      have hc1 : decide (f ≤ i) = true ∨ decide (f ≤ i) = false := by cases decide (f ≤ i) <;> simp
                      have hc2 : decide (i < l2) = true ∨ decide (i < l2) = false := by cases decide (i < l2) <;> simp
                      have hc3 : ((X[i].toNat : Int) != ((nb o i).toNat : Int)) = true ∨ ((X[i].toNat : Int) != ((nb o i).toNat : Int)) = false := by cases ((X[i].toNat : Int) != ((nb o i).toNat : Int)) <;> simp
                      have HC := Lib.hid (show ((X[i].toNat : Int) != ((nb o i).toNat : Int)) = decide (d.getD i 0 ≠ nb o i) by rw [u8_ne, hxe])
                      clear hxe
                      rcases hc1 with hc1 | hc1 <;> rcases hc2 with hc2 | hc2 <;> rcases hc3 with hc3 | hc3
                      all_goals
                        go_wp2_with fail
                        (refine wp_region_quiet_lit (by kernel_rfl) (by kernel_rfl) ?_; (repeat (any_goals (first | go_big_quiet_step ((go_at_call 12; exact Calls.quiet_of_same (byteOf_q o i ho hi64 _))) | quiet_step ((go_at_call 12; exact Calls.quiet_of_same (byteOf_q o i ho hi64 _))) | (refine wpQuiet_step (fun K hK => ?_); go_simp; split <;> (refine hK _ ?_; clear hK K))))); all_goals (refine wpQuiet_nil ?_; intro _ hw'; obtain ⟨nq, hw''⟩ := hw'; subst hw''))
                        have hBq := bN nq hB
                        generalize wr.drewN nq = wz at *
                        go_wp2_with fail
                        (refine wp_region_quiet_lit (by kernel_rfl) (by kernel_rfl) ?_; (repeat (any_goals (first | go_big_quiet_step ((go_at_call 12; exact Calls.quiet_of_same (byteOf_q o i ho hi64 _))) | quiet_step ((go_at_call 12; exact Calls.quiet_of_same (byteOf_q o i ho hi64 _))) | (refine wpQuiet_step (fun K hK => ?_); go_simp; split <;> (refine hK _ ?_; clear hK K))))); all_goals (refine wpQuiet_nil ?_; intro _ hw'; obtain ⟨nq, hw''⟩ := hw'; subst hw''))
                        go_wp2_with fail
                        go_roundw
                        case measure => simp [intOf]; omega
                        case rel => exact ⟨i + 1, _, _, by omega, by go_num, rfl, rfl, Lib.hid (by have h := HN.out; rw [← HC.out, hc1, hc2, hc3] at h; simpa using h), (by first | exact Below.refl _ _ | ((repeat (refine bN _ ?_)); first | exact Below.refl _ _ | go_grown))⟩
                    · have hi2 : ¬ (i : Int) < 64 := by omega
                      have HZ := Lib.hid (inv3_end hI.out HEND2.out)
                      cases p
                      · obtain rfl : q = true := by simpa using HZ.out
                        go_wp2_with fail
                        go_ret
                        exact ⟨rfl, hB⟩
                      · go_wp2_with fail
                        go_ret
                        exact ⟨rfl, hB⟩
                · have hge2 : ¬ (l : Int) < 64 := by omega
                  have hge3 : decide ((l : Int) < 64) = false := by simp; omega
                  go_wp2_with fail
                  (refine wp_region_quiet_lit (by kernel_rfl) (by kernel_rfl) ?_; (repeat (any_goals (first | go_big_quiet_step (fail) | quiet_step (fail) | (refine wpQuiet_step (fun K hK => ?_); go_simp; split <;> (refine hK _ ?_; clear hK K))))); all_goals (refine wpQuiet_nil ?_; intro _ hw'; obtain ⟨nq, hw''⟩ := hw'; subst hw''))
                  go_wp2_with fail
                  obtain ⟨l2, hl2⟩ : ∃ l2, 64 - l = l2 := ⟨_, rfl⟩
                  have HEND2 := Lib.hid (show (∀ i, f ≤ i → i < 64 → d.getD i 0 = nb o i) ∨ ∀ i, i < l2 → d.getD i 0 = nb o i by rw [← hl2]; exact HEND.out)
                  have hwr2 : IntKind.i64.wrap ((64 : Int) - (l : Int)) = (l2 : Int) := by rw [IntWalk.i64_in _ (by omega)]; omega
                  have hl264 : l2 ≤ 64 := by omega
                  clear HEND hl2
                  go_loopw [13, 14, 15] (fun v13 v14 v15 wr => ∃ (i : Nat) (p q : Bool), i ≤ 64 ∧ v15 = .int .i64 i ∧ v13 = .bool p ∧ v14 = .bool q ∧ Hid (Inv3 d o f l2 p q) ∧ Below w.heap.size w wr) (fun _ _ v15 _ => 64 - (intOf v15).toNat)
                  case atStart => exact ⟨0, true, true, by omega, rfl, rfl, rfl, Lib.hid ⟨fun _ => rfl, fun _ => rfl⟩, (by first | exact Below.refl _ _ | ((repeat (refine bN _ ?_)); first | exact Below.refl _ _ | go_grown))⟩
                  case round =>
                    clear hB
                    obtain ⟨i, p, q, hi, rfl, rfl, rfl, hI, hB⟩ := hrel
                    by_cases hi64 : i < 64
                    · have hi2 : (i : Int) < 64 := by omega
                      have hix : i < X.size := by have := HXS.out; omega
                      have hix2 : (i : Int) < (X.size : Int) := by omega
                      have HN := Lib.hid (inv3_step hI.out hi64)
                      have hxe := HG.out i hix
                      have hc1 : decide (f ≤ i) = true ∨ decide (f ≤ i) = false := by cases decide (f ≤ i) <;> simp
                      have hc2 : decide (i < l2) = true ∨ decide (i < l2) = false := by cases decide (i < l2) <;> simp
                      have hc3 : ((X[i].toNat : Int) != ((nb o i).toNat : Int)) = true ∨ ((X[i].toNat : Int) != ((nb o i).toNat : Int)) = false := by cases ((X[i].toNat : Int) != ((nb o i).toNat : Int)) <;> simp
                      have HC := Lib.hid (show ((X[i].toNat : Int) != ((nb o i).toNat : Int)) = decide (d.getD i 0 ≠ nb o i) by rw [u8_ne, hxe])
                      clear hxe
                      rcases hc1 with hc1 | hc1 <;> rcases hc2 with hc2 | hc2 <;> rcases hc3 with hc3 | hc3
                      all_goals
                        go_wp2_with fail
                        (refine wp_region_quiet_lit (by kernel_rfl) (by kernel_rfl) ?_; (repeat (any_goals (first | go_big_quiet_step ((go_at_call 12; exact Calls.quiet_of_same (byteOf_q o i ho hi64 _))) | quiet_step ((go_at_call 12; exact Calls.quiet_of_same (byteOf_q o i ho hi64 _))) | (refine wpQuiet_step (fun K hK => ?_); go_simp; split <;> (refine hK _ ?_; clear hK K))))); all_goals (refine wpQuiet_nil ?_; intro _ hw'; obtain ⟨nq, hw''⟩ := hw'; subst hw''))
                        have hBq := bN nq hB
                        generalize wr.drewN nq = wz at *
                        go_wp2_with fail
                        (refine wp_region_quiet_lit (by kernel_rfl) (by kernel_rfl) ?_; (repeat (any_goals (first | go_big_quiet_step ((go_at_call 12; exact Calls.quiet_of_same (byteOf_q o i ho hi64 _))) | quiet_step ((go_at_call 12; exact Calls.quiet_of_same (byteOf_q o i ho hi64 _))) | (refine wpQuiet_step (fun K hK => ?_); go_simp; split <;> (refine hK _ ?_; clear hK K))))); all_goals (refine wpQuiet_nil ?_; intro _ hw'; obtain ⟨nq, hw''⟩ := hw'; subst hw''))
                        go_wp2_with fail
                        go_roundw
                        case measure => simp [intOf]; omega
                        case rel => exact ⟨i + 1, _, _, by omega, by go_num, rfl, rfl, Lib.hid (by have h := HN.out; rw [← HC.out, hc1, hc2, hc3] at h; simpa using h), (by first | exact Below.refl _ _ | ((repeat (refine bN _ ?_)); first | exact Below.refl _ _ | go_grown))⟩
                    · have hi2 : ¬ (i : Int) < 64 := by omega
                      have HZ := Lib.hid (inv3_end hI.out HEND2.out)
                      cases p
                      · obtain rfl : q = true := by simpa using HZ.out
                        go_wp2_with fail
                        go_ret
                        exact ⟨rfl, hB⟩
                      · go_wp2_with fail
                        go_ret
                        exact ⟨rfl, hB⟩
    · have hd1 : decide ((64 : Int) < (o.size : Int)) = false := by simp; omega
      have hd2 : decide ((64 : Int) < (s.size : Int)) = true := by simp; omega
      go_enter Try.func3, Try.ntmps3
      go_wp2_with (first
        | ((with_reducible refine (HW.out).mono ?_); rintro e w0 ⟨rfl, hB0⟩)
        | ((with_reducible refine (pl_new w0 3 3 rfl (by omega) (by omega)).mono ?_); rintro e w1 ⟨b, rfl, hP1, hB1⟩))
      go_ret
      exact ⟨rfl, chain hB0 hB1⟩
  · have hd1 : decide ((64 : Int) < (o.size : Int)) = true := by simp; omega
    go_enter Try.func3, Try.ntmps3
    go_wp2_with (first
      | ((with_reducible refine (HW.out).mono ?_); rintro e w0 ⟨rfl, hB0⟩)
      | ((with_reducible refine (pl_new w0 3 3 rfl (by omega) (by omega)).mono ?_); rintro e w1 ⟨b, rfl, hP1, hB1⟩))
    go_ret
    exact ⟨rfl, chain hB0 hB1⟩
end Go.Proofs.Ytbgdkpgegbkfkaa
