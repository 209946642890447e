/- The law's own small example, reckoned with; the program's. -/
import Derived.Test.YtefefpiealknlaaGreatDoorMd9
namespace Go.Proofs.YtefefpiealknlaaGreatDoor
open Go.RowKit Lift
set_option linter.unusedSimpArgs false
set_option linter.unusedVariables false

abbrev Chg := Ent × Bool
def rChg : Rd Chg := rEnt.pair Rd.bool
def xE : Ent := (5, 3, 2, ⟨#[120]⟩)
theorem chg_rel (S : Nat → Prop) (w : World) : rChg.rel S w [.int .i64 5, .int .i64 3, .int .i64 2, .string ⟨#[120]⟩, .bool false] (xE, false) :=
  ⟨cellsEnt xE, [.bool false], rfl, ent_rel S w xE ⟨Wf.of (by decide) (by decide), Wf.of (by decide) (by decide), Wf.of (by decide) (by decide), by unfold maxTx; decide⟩, rfl⟩
theorem chg_info0 : ∃ i0, Tryz.prog.info? 62 = some i0 ∧ i0.zero = some (.agg #[.int .i64 0, .int .i64 0, .int .i64 0, .string ByteArray.empty, .bool false]) ∧ i0.size = 5 ∧ i0.bytes = 48 := info_parts (by kernel_rfl)
theorem chg_get {S : Nat → Prop} {w : World} {ao : Option Addr} (h : SlAt rChg S w ao [(xE, false)]) : ∃ b off, ao = some ⟨b, off, none⟩ ∧ b < w.heap.size ∧ w.cell? ⟨b, off, none⟩ = some (.int .i64 5) ∧ w.cell? ⟨b, off + 1, none⟩ = some (.int .i64 3) ∧ w.cell? ⟨b, off + 2, none⟩ = some (.int .i64 2) ∧ w.cell? ⟨b, off + 3, none⟩ = some (.string ⟨#[120]⟩) ∧ w.cell? ⟨b, off + 4, none⟩ = some (.bool false) := by
  obtain ⟨b, off, cs, rfl, hs, hlt, ⟨c1, c2, rfl, h1, rfl⟩, hc⟩ := h.get (k := 0) (c := (xE, false)) rfl
  obtain ⟨rfl, _⟩ := ent_inv h1
  simp only [Nat.zero_mul, Nat.add_zero] at hc
  exact ⟨b, off, rfl, hlt, hc 0 _ rfl, hc 1 _ rfl, hc 2 _ rfl, hc 3 _ rfl, hc 4 _ rfl⟩
def FI (base d g cap : Nat) (rule : Int) (w WL : World) (k : Nat) (wr : World) : Prop := (k = 0 ∧ WL = wr) ∨ (k = 1 ∧ WorkPost base d g cap rule w (.returned (.bool true)) wr)
set_option maxHeartbeats 8000000 in
set_option maxRecDepth 100000 in
theorem fast_works {base : Nat} {w : World} {d g cap : Nat} {ver rule : Int} (h : Dk base w d (.slice (some ⟨g, 0, none⟩) 1 cap) [rW] ver rule) (hrule : rule = 1 ∨ rule = 2) (hvv : ver ≤ 1000) (s : Sd) (hs : SdOk w.heap.size w s) (he : s.e = [xE]) (hg : s.g = []) :
    Calls Tryz.prog 12 #[.pointer (some ⟨d, 0, none⟩), sdV s] w (WorkPost base d g cap rule w) := by
  obtain ⟨W0, hW0⟩ : ∃ W0, w.alloc (.cells #[.slice s.ea s.e.length s.ec, .slice s.ga s.g.length s.gc, .slice s.pa s.p.length s.pc, .slice s.ra s.r.length s.rc] 28) = W0 := ⟨_, rfl⟩
  have hb0 : Below w.heap.size w W0 := by rw [← hW0]; exact (Below.refl _ _).alloc (Nat.le_refl _) _
  have hsz : w.heap.size < W0.heap.size := by rw [← hW0]; simp
  have hbx : SdBox W0 w.heap.size s := by rw [← hW0]; exact ⟨by simp [go_sem], by simp [go_sem], by simp [go_sem], by simp [go_sem]⟩
  have HS := Lib.hid (fun wr (hb : Below w.heap.size w wr) => hs.old hb)
  have HD := Lib.hid h
  have hel : s.e.length = 1 := by rw [he]; rfl
  have hg0 : s.g.length = 0 := by rw [hg]; rfl
  obtain ⟨x0, x1, x2, x3⟩ := hbx
  obtain ⟨i0, hi, hz0', hz1, hz2⟩ := chg_info0
  have HI := Lib.hid hi; have HZ := Lib.hid hz0'; have HZ1 := Lib.hid hz1; have HZ2 := Lib.hid hz2
  have HW0 := Lib.hid hW0
  have HB0 := Lib.hid hb0
  have HE := Lib.hid he
  have HRU := Lib.hid hrule
  unfold sdV
  rw [hg0, hel] at HW0 ⊢
  rw [hg0] at x1
  rw [hel] at x0
  clear h hs hb0 hW0 he hg hel hg0 hi hz0' hz1 hz2 hrule
  go_enter Tryz.func12, Tryz.ntmps12
  go_upto_region 2 with fail
  rw [HW0.out]
  go_wp2_with fail
  go_loopw [5, 15] (fun v5 v15 wr => ∃ k : Nat, k ≤ 1 ∧ v15 = .int .i64 k ∧ Own rChg (fun _ => True) wr W0.heap.size 62 v5 (([xE].take k).map (fun c => (c, false))) ∧ Below W0.heap.size W0 wr) (fun _ v15 _ => 1 - (intOf v15).toNat)
  case atStart => exact ⟨0, by omega, rfl, Own.nil _ _ _ _ _, Below.refl _ _⟩
  case round =>
    obtain ⟨k, hk, rfl, hO, hb⟩ := hrel
    match k, hk with
    | 0, _ =>
      have hsw := HS.out wr (chain HB0.out hb)
      obtain ⟨bb, oo, hao, hs1, hb1, hok, y0, y1, y2, y3⟩ := ent_get (k := 0) (c := xE) hsw.e (by rw [HE.out]; rfl)
      rw [hao] at x0 ⊢
      simp only [xE, Nat.zero_mul, Nat.add_zero] at y0 y1 y2 y3
      have hOO : Own rChg (fun _ => True) _ W0.heap.size 62 u5 [] := hO.alloc (.cells #[.int .i64 5, .int .i64 3, .int .i64 2, .string ⟨#[120]⟩] 30)
      have HBN := Lib.hid (hb.alloc hb.size (.cells #[.int .i64 5, .int .i64 3, .int .i64 2, .string ⟨#[120]⟩] 30))
      have hzs := hb.size
      clear hok hsw hao hO hb
      go_wp2_with (first | (at_builtin; refine wpList_push rChg rfl _ _ 60 rfl W0.heap.size 62 i0 _ 48 Tryz.underlying60 HI.out HZ.out HZ1.out HZ2.out rfl (by decide) (fun _ => True) _ [] rfl hOO [.int .i64 5, .int .i64 3, .int .i64 2, .string ⟨#[120]⟩, .bool false] (xE, false) _ rfl (by simp) (chg_rel _ _) (by simp [Value.oneCell']) (by unfold maxLen; simp) (by simp) (by first | omega | (simp; omega)) ?_; intro v2 w2 hO2 hK2 hw2))
      go_roundw
      case measure => simp [intOf]
      case rel => exact ⟨1, by omega, by go_num, hO2, HBN.out.trans (hK2.below HBN.out.size (fun j hj => (hOO.lt j hj.symm).1))⟩
    | 1, _ =>
      obtain ⟨WL, rfl⟩ : ∃ x : World, x = wr := ⟨_, rfl⟩
      have x1 := (hb.cell (p := ⟨w.heap.size, 1, none⟩) hsz).trans x1
      have HBL := Lib.hid (chain HB0.out hb)
      obtain ⟨ao, ca, rfl⟩ := hO.form
      have HO := Lib.hid (show SlAt rChg (· < WL.heap.size) WL ao [(xE, false)] from hO.here)
      clear x0 x2 x3 hb hO
      go_wp2_with fail
      go_loopw [5, 31] (fun v5 v31 wr => v5 = .slice ao 1 ca ∧ v31 = .int .i64 0 ∧ WL = wr) (fun _ _ _ => 0)
      case atStart => exact ⟨rfl, rfl, rfl⟩
      case round =>
        obtain ⟨rfl, rfl, rfl⟩ := hrel
        have HC := Lib.hid (fun f => sort_small ao ca 1 (by omega) f WL)
        go_wp2_with fail
        refine (HC.out _).mono ?_
        rintro e w1 ⟨rfl, rfl⟩
        have HI0 := Lib.hid (show FI base d g cap rule w WL 0 WL from .inl ⟨rfl, rfl⟩)
        go_wp2_with fail
        go_loopw [45] (fun v45 wr => ∃ k : Nat, k ≤ 1 ∧ v45 = .int .i64 k ∧ Hid (FI base d g cap rule w WL k wr)) (fun v45 _ => 1 - (intOf v45).toNat)
        case atStart => exact ⟨0, by omega, rfl, HI0⟩
        case round =>
          obtain ⟨k, hk, rfl, hI⟩ := hrel
          match k, hk with
          | 0, _ =>
            obtain rfl : WL = wr := by rcases hI.out with ⟨_, h⟩ | ⟨h, _⟩; exact h; omega
            obtain ⟨b, off, rfl, hlb, y0, y1, y2, y3, y4⟩ := chg_get HO.out
            obtain ⟨W2, hW2⟩ : ∃ x, WL.alloc (.cells #[.int .i64 5, .int .i64 3, .int .i64 2, .string ⟨#[120]⟩, .bool false] 62) = x := ⟨_, rfl⟩
            have hb2 : Below WL.heap.size WL W2 := by rw [← hW2]; exact (Below.refl _ _).alloc (Nat.le_refl _) _
            have hbw := chain HBL.out hb2
            have HP := Lib.hid (put_works (HD.out.below hbw) HRU.out hvv)
            have HBW := Lib.hid hbw
            have HW2 := Lib.hid hW2
            clear hI hb2 hbw hW2
            go_wp2_with fail
            rw [HW2.out]
            refine HP.out.mono ?_
            rintro e w3 ⟨rfl, c, v3, hc1, hc2, hD3, hK3⟩
            have HF := Lib.hid (show FI base d g cap rule w WL 1 w3 from .inr ⟨rfl, rfl, c, v3, hc1, hc2, hD3, (Kept.of_below HBW.out (fun _ => False)).trans hK3 (fun _ _ h => h.elim) (fun _ _ h => h)⟩)
            clear hc1 hc2 hD3 hK3
            go_wp2_with fail
            go_roundw
            case measure => simp [intOf]
            case rel => exact ⟨1, by omega, by go_num, HF⟩
          | 1, _ =>
            have HF := Lib.hid (show WorkPost base d g cap rule w (.returned (.bool true)) wr by rcases hI.out with ⟨h, _⟩ | ⟨_, h⟩; omega; exact h)
            clear hI
            go_wp2_with fail
            go_ret
            exact HF.out
end Go.Proofs.YtefefpiealknlaaGreatDoor
