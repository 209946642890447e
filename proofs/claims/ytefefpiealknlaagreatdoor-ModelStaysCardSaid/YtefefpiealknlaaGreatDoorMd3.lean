/- Both sides' texts: the program's. -/
import Derived.Test.YtefefpiealknlaaGreatDoorMd2
namespace Go.Proofs.YtefefpiealknlaaGreatDoor
open Go.RowKit Lift
set_option linter.unusedSimpArgs false
set_option linter.unusedVariables false

def textsE (l : List Ent) : List ByteArray := l.map (fun c => c.2.2.2)
def textsR (l : List Rec) : List ByteArray := (l.filter (fun c => c.2.1)).map (fun c => c.2.2.2.1)
theorem textsE_snoc (l : List Ent) (c : Ent) : textsE (l ++ [c]) = textsE l ++ [c.2.2.2] := by simp [textsE]
theorem textsR_snoc (l : List Rec) (c : Rec) : textsR (l ++ [c]) = textsR l ++ if c.2.1 = true then [c.2.2.2.1] else [] := by
  unfold textsR
  rw [List.filter_append, List.map_append]
  cases h : c.2.1 <;> simp [h]
theorem textsE_len (l : List Ent) : (textsE l).length = l.length := by simp [textsE]
theorem textsR_len (l : List Rec) : (textsR l).length ≤ l.length := by
  unfold textsR; rw [List.length_map]; exact List.length_filter_le _ _
/-- What Texts hands back. -/
def TextsPost (la lb : List ByteArray) (w : World) (e : Ending) (w' : World) : Prop :=
  ∃ va vb, e = .returned (.tuple #[va, vb]) ∧ Own Rd.str (fun _ => True) w' w.heap.size 9 va la ∧ Own Rd.str (fun _ => True) w' w.heap.size 9 vb lb ∧ Below w.heap.size w w'
set_option maxHeartbeats 8000000 in
set_option maxRecDepth 100000 in
theorem texts_any (s : Sd) (w : World) (hs : SdOk w.heap.size w s) : Calls Tryz.prog 5 #[sdV s] w (TextsPost (sortB (textsE s.e)) (sortB (textsR s.r)) w) := by
  obtain ⟨W0, hW0⟩ : ∃ W0, w.alloc (.cells #[.slice s.ea s.e.length s.ec, .slice s.ga s.g.length s.gc, .slice s.pa s.p.length s.pc, .slice s.ra s.r.length s.rc] 28) = W0 := ⟨_, rfl⟩
  have hb0 : Below w.heap.size w W0 := by rw [← hW0]; exact (Below.refl _ _).alloc (Nat.le_refl _) _
  have hsz : w.heap.size < W0.heap.size := by rw [← hW0]; simp
  have hbx : SdBox W0 w.heap.size s := by rw [← hW0]; exact ⟨by simp [go_sem], by simp [go_sem], by simp [go_sem], by simp [go_sem]⟩
  have hel := hs.el
  have hrl := hs.rl
  have HS := Lib.hid (fun w' (hb : Below w.heap.size w w') => hs.old hb)
  have HBX := Lib.hid (fun w' (hb : Below W0.heap.size W0 w') => hbx.old hb hsz)
  obtain ⟨i0, hi, hz0, hz1, hz2⟩ := str_info0
  have HI := Lib.hid hi; have HZ0 := Lib.hid hz0; have HZ1 := Lib.hid hz1; have HZ2 := Lib.hid hz2
  have HT0 := Lib.hid hb0
  obtain ⟨x0, x1, x2, x3⟩ := hbx
  have hst := Below.refl W0.heap.size W0
  clear hs hi hz0 hz1 hz2 hb0
  unfold sdV
  go_enter Tryz.func5, Tryz.ntmps5
  go_wp2_with fail
  go_loopw [4, 13] (fun va v13 wr => ∃ k : Nat, k ≤ s.e.length ∧ v13 = .int .i64 k ∧ Own Rd.str (fun _ => True) wr W0.heap.size 9 va (textsE (s.e.take k)) ∧ Below W0.heap.size W0 wr) (fun _ v13 _ => s.e.length - (intOf v13).toNat)
  case atStart => exact ⟨0, by omega, rfl, by simpa [textsE] using Own.nil Rd.str (fun _ => True) W0 W0.heap.size 9, hst⟩
  case round =>
    obtain ⟨k, hk, rfl, hO, hb⟩ := hrel
    by_cases hkl : k < s.e.length
    · obtain ⟨c, hcl⟩ := some_at hkl
      have hsw := HS.out wr (HT0.out.trans (hb.mono (Nat.le_of_lt hsz)))
      obtain ⟨bb, oo, hao, hs1, hb1, hok, y0, y1, y2, y3⟩ := ent_get hsw.e hcl
      rw [hao] at x0 ⊢
      have hkl2 : (k : Int) < (s.e.length : Int) := by omega
      have hTK := textsE_snoc (s.e.take k) c
      rw [← take_at2 hcl] at hTK
      have HTK := Lib.hid hTK
      have hlen : (textsE (s.e.take k)).length ≤ 1000 := by rw [textsE_len, List.length_take]; omega
      have hcz : c.2.2.2.size ≤ maxTx := hok.2.2.2
      have hOO := hO.alloc (.cells #[.int .i64 c.1, .int .i64 c.2.1, .int .i64 c.2.2.1, .string c.2.2.2] 30)
      have HBA := Lib.hid (hb.alloc hb.size (.cells #[.int .i64 c.1, .int .i64 c.2.1, .int .i64 c.2.2.1, .string c.2.2.2] 30))
      have hzs := hb.size
      clear hcl hTK hok hsw hO hao
      go_wp2_with (first | (at_builtin; refine wpList_push Rd.str rfl _ _ 22 rfl W0.heap.size 9 i0 _ 16 Tryz.underlying22 HI.out HZ0.out HZ1.out HZ2.out rfl (by decide) (fun _ => True) _ (textsE (s.e.take k)) rfl hOO [.string c.2.2.2] c.2.2.2 _ rfl (by simp) (str_rel _ _ _ hcz) (by simp [Value.oneCell']) (by unfold maxLen; omega) (by omega) (by first | omega | (simp; omega)) ?_; intro v2 w2 hO2 hK2 hw2))
      go_roundw
      case measure => simp [intOf]; omega
      case rel => exact ⟨k + 1, by omega, by go_num, by rw [HTK.out]; exact hO2, HBA.out.trans (hK2.below HBA.out.size (fun j hj => (hOO.lt j hj.symm).1))⟩
    · obtain rfl : k = s.e.length := by omega
      obtain ⟨WO, rfl⟩ : ∃ x : World, x = wr := ⟨_, rfl⟩
      have hO1 := hO
      rw [List.take_length] at hO1
      have HB1 := Lib.hid hb
      have x3 := (hb.cell (p := ⟨w.heap.size, 3, none⟩) hsz).trans x3
      have HO1 := Lib.hid hO1
      clear hO hO1 x0 x1 x2
      go_wp2_with fail
      go_loopw [5, 26] (fun vb v26 wr => ∃ k : Nat, k ≤ s.r.length ∧ v26 = .int .i64 k ∧ Own Rd.str (fun _ => True) wr WO.heap.size 9 vb (textsR (s.r.take k)) ∧ Below WO.heap.size WO wr) (fun _ v26 _ => s.r.length - (intOf v26).toNat)
      case atStart => exact ⟨0, by omega, rfl, by simpa [textsR] using Own.nil Rd.str (fun _ => True) WO WO.heap.size 9, Below.refl _ _⟩
      case round =>
        clear hst hb x3
        obtain ⟨j, hj, rfl, hO, hb⟩ := hrel
        have hb2 := chain HB1.out hb
        by_cases hjl : j < s.r.length
        · obtain ⟨c, hcl⟩ := some_at hjl
          have hsw := HS.out wr (chain HT0.out hb2)
          obtain ⟨bb, oo, hao, hs1, hb1, hok, y0, y1, y2, y3, y4, y5, y6, y7, y8⟩ := rec_get hsw.r hcl
          rw [hao]
          have hjl2 : (j : Int) < (s.r.length : Int) := by omega
          have hTK := textsR_snoc (s.r.take j) c
          rw [← take_at2 hcl] at hTK
          have hlen : (textsR (s.r.take j)).length ≤ 1000 := by have := textsR_len (s.r.take j); rw [List.length_take] at this; omega
          have hcz : c.2.2.2.1.size ≤ maxTx := hok.2.2.2.1
          have hOO := hO.alloc (.cells #[.int .i64 c.1, .bool c.2.1, .int .i64 c.2.2.1, .string c.2.2.2.1, .int .i64 c.2.2.2.2.1, .int .i64 c.2.2.2.2.2.1, .string c.2.2.2.2.2.2.1, .int .i64 c.2.2.2.2.2.2.2.1, .string c.2.2.2.2.2.2.2.2] 32)
          have HBA := Lib.hid (hb.alloc hb.size (.cells #[.int .i64 c.1, .bool c.2.1, .int .i64 c.2.2.1, .string c.2.2.2.1, .int .i64 c.2.2.2.2.1, .int .i64 c.2.2.2.2.2.1, .string c.2.2.2.2.2.2.1, .int .i64 c.2.2.2.2.2.2.2.1, .string c.2.2.2.2.2.2.2.2] 32))
          have hzs := hb.size
          have HBB := Lib.hid hb2
          have hjlim : j ≤ 1000 := by omega
          clear hcl hok hsw hO hao hb2 hb
          cases hlv : c.2.1 with
          | true =>
            rw [hlv, if_pos rfl] at hTK
            have HTK := Lib.hid hTK
            rw [hlv] at y1 hOO HBA
            clear hTK
            go_wp2_with (first | (at_builtin; refine wpList_push Rd.str rfl _ _ 22 rfl WO.heap.size 9 i0 _ 16 Tryz.underlying22 HI.out HZ0.out HZ1.out HZ2.out rfl (by decide) (fun _ => True) _ (textsR (s.r.take j)) rfl hOO [.string c.2.2.2.1] c.2.2.2.1 _ rfl (by simp) (str_rel _ _ _ hcz) (by simp [Value.oneCell']) (by unfold maxLen; omega) (by omega) (by first | omega | (simp; omega)) ?_; intro v2 w2 hO2 hK2 hw2))
            go_roundw
            case measure => simp [intOf]; omega
            case rel => exact ⟨j + 1, by omega, by go_num, by rw [HTK.out]; exact hO2, HBA.out.trans (hK2.below HBA.out.size (fun j hj => (hOO.lt j hj.symm).1))⟩
          | false =>
            rw [hlv, if_neg (by simp), List.append_nil] at hTK
            have HTK := Lib.hid hTK
            rw [hlv] at y1 hOO HBA
            clear hTK
            go_wp2_with fail
            go_roundw
            case measure => simp [intOf]; omega
            case rel => exact ⟨j + 1, by omega, by go_num, by rw [HTK.out]; exact hOO, HBA.out⟩
        · obtain rfl : j = s.r.length := by omega
          have hO2 := hO
          rw [List.take_length] at hO2
          have hO1 := HO1.out.below hb
          have hl1 : (textsE s.e).length ≤ 100000 := by rw [textsE_len]; omega
          have hl2 : (textsR s.r).length ≤ 100000 := by have := textsR_len s.r; omega
          have HC1 := Lib.hid (sort_any hO1 hl1)
          have HO2 := Lib.hid hO2
          have HB2 := Lib.hid hb2
          have HA := Lib.hid (fun k (h : u4.ownBlock = some k) => HO1.out.lt k h)
          have HA2 := Lib.hid (fun k (h : u5.ownBlock = some k) => hO2.lt k h)
          have HZ := Lib.hid hb.size
          clear hO hO1 hO2 hb hb2
          go_wp2_with fail
          refine HC1.out.mono ?_
          rintro e w3 ⟨rfl, hO3, hK3⟩
          have hO4 := HO2.out.flat (S' := fun _ => True) str_flat hK3 (fun k h h2 => by have h1 := HA2.out k h; have h3 := HA.out k h2.symm; omega)
          have HC2 := Lib.hid (sort_any hO4 hl2)
          have HK3 := Lib.hid hK3
          have HO3 := Lib.hid hO3
          clear hO4 hK3 hO3
          go_wp2_with fail
          refine HC2.out.mono ?_
          rintro e w4 ⟨rfl, hO5, hK4⟩
          have hO6 := HO3.out.flat (S' := fun _ => True) str_flat hK4 (fun k h h2 => by have h1 := HA2.out k h2.symm; have h3 := HA.out k h; omega)
          have hB3 := HB2.out.trans (HK3.out.below HB2.out.size (fun k h => (HA.out k h.symm).1))
          have hB4 := hB3.trans (hK4.below hB3.size (fun k h => by have := (HA2.out k h.symm).1; have := HB1.out.size; omega))
          go_wp2_with fail
          go_ret2
          exact ⟨u4, u5, rfl, hO6.rebase (Nat.le_of_lt hsz), hO5.rebase (by have := HB1.out.size; omega), HT0.out.trans (hB4.mono (Nat.le_of_lt hsz))⟩
end Go.Proofs.YtefefpiealknlaaGreatDoor
