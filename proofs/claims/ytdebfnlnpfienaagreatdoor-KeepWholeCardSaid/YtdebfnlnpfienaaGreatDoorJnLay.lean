/- A record's bytes are laid. -/
import Derived.Test.YtdebfnlnpfienaaGreatDoorJnClear
namespace Go.Proofs.YtdebfnlnpfienaaGreatDoor
open Go.RowKit Lift
set_option linter.unusedSimpArgs false
set_option linter.unusedVariables false

/-- A journal when its plate has gone on. -/
theorem JRaw.plate {base : Nat} {w w' : World} {F F' : Fp} {st st' : St} {J : JF} {js : JSt} (h : JRaw base w F st J js) (hR : Raw base w' F' st') (hb : F'.b = F.b) (hf : ∀ k, foot F' k → foot F k ∨ w.heap.size ≤ k) (hk : Kept (foot F) w w') (hl : st'.no.length = st.no.length) : JRaw base w' F' st' J js where
  raw := hR
  blk := by rw [hb]; exact (hk.block J.b h.lt h.n1).trans h.blk
  own := h.own.flat str_flat hk (fun k e => (h.n2 k e).1)
  bb := h.bb
  gen := h.gen
  en := h.en
  lim := by rw [hl]; exact h.lim
  len := h.len
  n1 := fun hx => by rcases hf _ hx with h1 | h1; exact h.n1 h1; have := h.lt; omega
  n2 := fun k e => ⟨fun hx => by rcases hf _ hx with h1 | h1; exact (h.n2 k e).1 h1; have := (h.own.lt k e).2; omega, (h.n2 k e).2⟩
theorem chunk_take (s : ByteArray) (i : Nat) : (s.extract (64 * i) s.size).extract 0 (min 64 (s.size - 64 * i)) = chunkB s i := by
  apply ByteArray.ext
  have hs : s.size = s.data.size := rfl
  simp only [chunkB, ByteArray.data_extract, Array.extract_extract]
  apply Array.ext
  · simp; omega
  · intro k h1 h2
    simp
theorem chunk_drop (s : ByteArray) (i : Nat) : (s.extract (64 * i) s.size).extract (min 64 (s.size - 64 * i)) (s.size - 64 * i) = s.extract (64 * (i + 1)) s.size := by
  apply ByteArray.ext
  have hs : s.size = s.data.size := rfl
  simp only [ByteArray.data_extract, Array.extract_extract]
  apply Array.ext
  · simp; omega
  · intro k h1 h2
    simp at h1 h2 ⊢
    congr 1
    omega
set_option maxHeartbeats 8000000 in
set_option maxRecDepth 100000 in
theorem lay_any {base : Nat} {w : World} {F : Fp} {st : St} {J : JF} {js : JSt} (h : JRaw base w F st J js) (s : ByteArray) (hs : s.size ≤ 1048576) (hlo : st.lo.length ≤ 100000000) :
    Calls Tryz.prog 59 #[.pointer (some ⟨J.b, 0, none⟩), .string s] w (fun e w' => e = .returned (.int .i64 (runOps st (layOps js.en s ((s.size + 63) / 64))).2) ∧ PlS base F (runOps st (layOps js.en s ((s.size + 63) / 64))).1 w w') := by
  obtain ⟨c0, c1, c2, c3, c4, c5⟩ := h.cells
  obtain ⟨b1, b2, b3⟩ := h.bd
  have H := Lib.hid h
  have hJlt := h.lt
  have hJn := h.n1
  have hP0 := PlS.refl h.raw
  clear h
  go_enter Tryz.func59, Tryz.ntmps59
  go_wp2_with fail
  go_loopw [1,5] (fun v1 v5 wr => ∃ i : Nat, i ≤ (s.size + 63) / 64 ∧ v1 = .string (s.extract (64 * i) s.size) ∧ v5 = .int .i64 ((js.en + 1 + i : Nat) : Int) ∧ (runOps st (layOps js.en s i)).2 = 0 ∧ PlS base F (runOps st (layOps js.en s i)).1 w wr) (fun _ v _ => js.en + 1 + (s.size + 63) / 64 - (intOf v).toNat)
  case atStart => exact ⟨0, by omega, by simp, by simp, by simp [layOps, runOps], by simpa [layOps, runOps] using hP0⟩
  case round =>
    obtain ⟨i, hi, rfl, rfl, h0, hP⟩ := hrel
    by_cases hlt : i < (s.size + 63) / 64
    · have hch1 := chunk_take s i
      have hch2 := chunk_drop s i
      have hXs : (s.extract (64 * i) s.size).size = s.size - 64 * i := by simp
      have hsucc := layOps_succ js.en s i
      have hrun : runOps st (layOps js.en s (i + 1)) = (stepSt (runOps st (layOps js.en s i)).1 (some (js.en + 1 + i, chunkB s i)), stepEr (runOps st (layOps js.en s i)).1 (some (js.en + 1 + i, chunkB s i))) := by rw [hsucc, runOps_append, if_pos h0, runOps_one]
      have hlo2 := runOps_lo (layOps js.en s i) st
      have hll : (layOps js.en s i).length = i := by simp [layOps]
      have hX0 : 0 < s.size - 64 * i := by omega
      have hXl : s.size - 64 * i ≤ 1048576 := by omega
      have hchs : (chunkB s i).size ≤ maxTx := by simp [chunkB, maxTx]; omega
      have hD : runOps st (layOps js.en s ((s.size + 63) / 64)) = if (runOps st (layOps js.en s (i + 1))).2 = 0 then runOps (runOps st (layOps js.en s (i + 1))).1 ((layOps js.en s ((s.size + 63) / 64)).drop (i + 1)) else runOps st (layOps js.en s (i + 1)) := by
        have e : layOps js.en s ((s.size + 63) / 64) = layOps js.en s (i + 1) ++ (layOps js.en s ((s.size + 63) / 64)).drop (i + 1) := by
          conv => lhs; rw [← List.take_append_drop (i + 1) (layOps js.en s ((s.size + 63) / 64))]
          congr 1
          simp [layOps, ← List.map_take, List.take_range, Nat.min_eq_left (Nat.succ_le_of_lt hlt)]
        conv => lhs; rw [e]
        rw [runOps_append]
      have HD := Lib.hid hD
      have HRun := Lib.hid hrun
      clear hD hrun hsucc
      obtain ⟨sti, hsti⟩ : ∃ sti, (runOps st (layOps js.en s i)).1 = sti := ⟨_, rfl⟩
      rw [hsti] at hP HRun hlo2
      obtain ⟨X, hX⟩ : ∃ X, s.extract (64 * i) s.size = X := ⟨_, rfl⟩
      rw [hX] at hch1 hch2 hXs ⊢
      rw [← hXs] at hch1 hch2 hX0 hXl
      have hne : (X.toList == []) = false := by
        have := str_eq X ⟨#[]⟩
        have e : decide (X = ⟨#[]⟩) = false := by
          simp only [decide_eq_false_iff_not]; intro h; rw [h] at hX0; exact Nat.lt_irrefl _ hX0
        rw [e] at this
        simpa using this
      obtain ⟨m, hm⟩ : ∃ m, min 64 X.size = m := ⟨_, rfl⟩
      rw [hm] at hch1 hch2
      have hm1 : m ≤ X.size := by omega
      have hm1i : (m : Int) ≤ (X.size : Int) := by omega
      have hm2 : 0 < m := by omega
      have hm3 : m ≤ 64 := by omega
      have q1 : ∀ w, (Builtin.min_ #[3, 3] 3 #[.int .i64 64, .int .i64 X.size]).run Tryz.prog w = .ok (.int .i64 m) w := fun w => by
        simp [Builtin.min_, Builtin.min2, go_sem]; omega
      have HM := Lib.hid hm
      have HXs := Lib.hid hXs
      have HLL := Lib.hid hll
      have HC1 := Lib.hid hch1
      have HC2 := Lib.hid hch2
      clear hX hm hsti h0 hXs hll hch1 hch2
      go_wp2_with fail
      obtain ⟨W2, hW2⟩ : ∃ W2, ({ heap := wr.heap, tape := wr.tape, drawn := wr.drawn + 1, os := wr.os, output := wr.output } : World) = W2 := ⟨_, rfl⟩
      have hP2 := hP.below (hW2 ▸ (Below.refl _ wr).drew : Below wr.heap.size wr W2)
      have d0 := hP2.cell c0 hJlt hJn
      obtain ⟨F', hR', hb', hft, hk⟩ := hP2
      have HPut := Lib.hid (put_any hR' ((js.en + 1 + i : Nat) : Int) (chunkB s i) hchs (by have := HLL.out; omega))
      rw [hb'] at HPut
      clear c0 c1 c2 c3 c4 c5 hP hR'
      refine wp_region_still_tail 8 (by kernel_rfl) (by kernel_rfl) ?_
      rw [hW2]
      clear hW2
      simp only [List.take_succ_cons, List.take_zero, List.drop_succ_cons, List.drop_zero]
      repeat still_step
      refine wpStill_nil ?_
      go_wp2_with fail
      have hcast : (js.en : Int) + 1 + (i : Int) = ((js.en + 1 + i : Nat) : Int) := by omega
      rw [HC1.out, hcast]
      clear hcast
      refine HPut.out.mono ?_
      rintro e w3 hp
      obtain ⟨rfl, hs3⟩ := hp.s
      have hP3 := PlS.on hb' hft hk hs3
      have hR1 : runOps st (layOps js.en s (i + 1)) = (putS sti ((js.en + 1 + i : Nat) : Int) (chunkB s i), putE sti ((js.en + 1 + i : Nat) : Int) (chunkB s i)) := HRun.out
      have hDD := HD.out
      rw [hR1] at hDD
      have HR1 := Lib.hid hR1
      clear hR1 HRun hp hs3 HPut HD
      obtain ⟨st3, hst3⟩ : ∃ st3, putS sti ((js.en + 1 + i : Nat) : Int) (chunkB s i) = st3 := ⟨_, rfl⟩
      obtain ⟨er, her⟩ : ∃ er, putE sti ((js.en + 1 + i : Nat) : Int) (chunkB s i) = er := ⟨_, rfl⟩
      rw [hst3, her] at HR1 hDD
      rw [hst3] at hP3
      rw [her]
      by_cases h0 : er = 0
      · subst h0
        have HDD := Lib.hid hDD
        clear hDD her hst3
        have hmX : (X.size : Int) ≤ 1048576 := by omega
        go_wp2_with fail
        rw [HC2.out]
        go_roundw
        case measure => simp [intOf]; omega
        case rel => exact ⟨i + 1, by omega, rfl, by congr 1, by rw [HR1.out], by rw [HR1.out]; exact hP3⟩
      · have hx2 : (er == 0) = false := by simpa using h0
        rw [if_neg h0] at hDD
        have HDD := Lib.hid hDD
        clear hDD her hst3
        go_wp2_with fail
        go_ret
        rw [HDD.out]
        exact ⟨rfl, hP3⟩
    · obtain rfl : i = (s.size + 63) / 64 := by omega
      have he : s.extract (64 * ((s.size + 63) / 64)) s.size = ⟨#[]⟩ := by
        apply ByteArray.ext
        simp only [ByteArray.data_extract]
        have : s.size = s.data.size := rfl
        simp; omega
      rw [he]
      go_wp2_with fail
      go_ret
      exact ⟨by rw [h0]; rfl, hP⟩
end Go.Proofs.YtdebfnlnpfienaaGreatDoor
