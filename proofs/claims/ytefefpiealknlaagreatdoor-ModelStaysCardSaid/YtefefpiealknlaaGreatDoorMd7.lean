/- Where nothing is pending: the slow reckoning changes nothing; the program's. -/
import Derived.Test.YtefefpiealknlaaGreatDoorMd6
import Derived.Laws.EntriesVeiled
namespace Go.Proofs.YtefefpiealknlaaGreatDoor
open Go.RowKit Lift
set_option linter.unusedSimpArgs false
set_option linter.unusedVariables false

/-- The law's own sides: contacts and records. -/
def mkE (i : Nat) (t : ByteArray) : Ent := ((i : Int) + 1, 0, 2 * (i : Int) + 1, t)
def mkR (i : Nat) (t : ByteArray) : Rec := (2 * (i : Int) + 3, true, 2 * (i : Int) + 1, t, (i : Int) + 1, 2 * (i : Int) + 1, t, 0, ⟨#[]⟩)
def entsOf (l : List ByteArray) : List Ent := l.mapIdx mkE
def recsOf (l : List ByteArray) : List Rec := l.mapIdx mkR
theorem entsOf_len (l : List ByteArray) : (entsOf l).length = l.length := by simp [entsOf]
theorem recsOf_len (l : List ByteArray) : (recsOf l).length = l.length := by simp [recsOf]
theorem entsOf_at {l : List ByteArray} {i : Nat} {t : ByteArray} (h : l[i]? = some t) : (entsOf l)[i]? = some (mkE i t) := by simp [entsOf, h]
theorem recsOf_at {l : List ByteArray} {i : Nat} {t : ByteArray} (h : l[i]? = some t) : (recsOf l)[i]? = some (mkR i t) := by simp [recsOf, h]
theorem entsOf_snoc (l : List ByteArray) (t : ByteArray) : entsOf (l ++ [t]) = entsOf l ++ [mkE l.length t] := by simp [entsOf, List.mapIdx_append]
theorem recsOf_snoc (l : List ByteArray) (t : ByteArray) : recsOf (l ++ [t]) = recsOf l ++ [mkR l.length t] := by simp [recsOf, List.mapIdx_append]
theorem recsOf_inv {l : List ByteArray} {i : Nat} {c : Rec} (h : (recsOf l)[i]? = some c) : ∃ t, l[i]? = some t ∧ c = mkR i t := by
  simp [recsOf] at h
  obtain ⟨t, h1, h2⟩ := h
  exact ⟨t, h1, h2.symm⟩
theorem idx_at' {α : Type} (p : α → Bool) : ∀ (l : List α) (k i : Nat) (c : α), l[i]? = some c → p c = true → (∀ j d, j < i → l[j]? = some d → p d = false) → idx p k l = ((k + i : Nat) : Int)
  | [], k, i, c, h, _, _ => by simp at h
  | a :: r, k, 0, c, h, hc, _ => by
    simp at h; subst h
    rw [idx, if_pos hc]; simp
  | a :: r, k, i + 1, c, h, hc, hn => by
    rw [idx, if_neg (by rw [hn 0 a (by omega) rfl]; simp)]
    rw [idx_at' p r (k + 1) i c (by simpa using h) hc (fun j d hj hd => hn (j + 1) d (by omega) (by simpa using hd))]
    congr 1; omega
theorem idx_recs {l : List ByteArray} {i : Nat} {t : ByteArray} (h : l[i]? = some t) : idx (hasL ((i : Int) + 1)) 0 (recsOf l) = (i : Int) := by
  rw [idx_at' _ _ 0 i _ (recsOf_at h) (by simp [hasL, mkR]; try omega) (fun j d hj hd => ?_)]
  · simp
  · obtain ⟨t', _, rfl⟩ := recsOf_inv hd
    simp [hasL, mkR]; omega
def toldOf (n : Nat) : List Int := (List.range n).map (fun (i : Nat) => (i : Int) + 1)
theorem toldOf_len (n : Nat) : (toldOf n).length = n := by simp [toldOf]
theorem toldOf_succ (n : Nat) : toldOf (n + 1) = toldOf n ++ [(n : Int) + 1] := by simp [toldOf, List.range_succ]
theorem not_lost {l : List ByteArray} {c : Rec} (h : c ∈ recsOf l) : lostB (toldOf l.length) c = false := by
  obtain ⟨i, hi⟩ := List.mem_iff_getElem?.1 h
  obtain ⟨t, h1, rfl⟩ := recsOf_inv hi
  have hil := (List.getElem?_eq_some_iff.1 h1).1
  simp only [lostB, mkR, Bool.and_eq_false_iff, Bool.not_eq_false']
  right
  rw [List.any_eq_true]
  exact ⟨(i : Int) + 1, by simp [toldOf]; exact ⟨i, hil, rfl⟩, by simp⟩
theorem not_gone {l : List ByteArray} : ∀ c ∈ recsOf l, goneB (toldOf l.length) c = false := by
  intro c h
  obtain ⟨i, hi⟩ := List.mem_iff_getElem?.1 h
  obtain ⟨t, h1, rfl⟩ := recsOf_inv hi
  rfl
theorem SdBox.kept' {X : Nat → Prop} {a : Nat} {w w' : World} {s : Sd} (h : SdBox w a s) (hk : Kept X w w') (ha : a < w.heap.size) (hx : ¬ X a) : SdBox w' a s :=
  ⟨(hk.cell (p := ⟨a, 0, none⟩) ha hx).trans h.1, (hk.cell (p := ⟨a, 1, none⟩) ha hx).trans h.2.1, (hk.cell (p := ⟨a, 2, none⟩) ha hx).trans h.2.2.1, (hk.cell (p := ⟨a, 3, none⟩) ha hx).trans h.2.2.2⟩
theorem setCell_self2 {w : World} {b o : Nat} {v : Value} (h : w.cell? ⟨b, o, none⟩ = some v) : w.setCell ⟨b, o, none⟩ v = w := by
  have e : w.heap.modify b (fun
      | .cells c elem frozen => .cells (if (⟨b, o, none⟩ : Addr).spot.isSome then c else c.setIfInBounds o v) elem frozen
      | o => o) = w.heap := by
    apply Array.ext_getElem?
    intro i
    rw [Array.getElem?_modify]
    by_cases hi : b = i
    · subst hi
      rw [if_pos rfl]
      cases hq : w.heap[b]? with
      | none => rfl
      | some ob =>
        simp only [World.cell?, hq] at h
        cases ob with
        | cells c t fr =>
          simp only [Option.map_some, Option.some.injEq]
          have hc : c[o]? = some v := by simpa using h
          have : c.setIfInBounds o v = c := by
            apply Array.ext_getElem?
            intro j
            rw [Array.getElem?_setIfInBounds]
            split
            · rename_i hj; subst hj; rw [hc]; simp [(Array.getElem?_eq_some_iff.1 hc).1]
            · rfl
          simp [this]
        | _ => rfl
    · rw [if_neg hi]
  have e2 : ∀ H, H = w.heap → ({ w with heap := H } : World) = w := by rintro _ rfl; rfl
  exact e2 _ e
/-- What the loop over the contacts keeps. -/
structure SInv (base : Nat) (w : World) (d : Nat) (v : Value) (l : List ByteArray) (ver rule : Int) (s : Sd) (k : Nat) (vt : Value) (wr : World) : Prop where
  dk : Dk base wr d v (recsOf l) ver rule
  kept : Kept (fun j => some j = v.ownBlock) w wr
  told : wr.heap[w.heap.size + 1]? = some (.cells #[vt] 68 (0, 0))
  own : Own (Rd.int .i64) (fun _ => True) wr (w.heap.size + 2) 3 vt (toldOf k)
  box : SdBox wr w.heap.size s
theorem int_flat3 : Flat (Rd.int .i64) := fun _ _ _ _ _ _ h => h
theorem int_info0 : ∃ i0, Tryz.prog.info? 3 = some i0 ∧ i0.zero = some (.int .i64 0) ∧ i0.size = 1 ∧ i0.bytes = 8 := info_parts (by kernel_rfl)
set_option maxHeartbeats 8000000 in
set_option maxRecDepth 100000 in
theorem slow_stay {base : Nat} {w : World} {d : Nat} {v : Value} {ver rule : Int} (l : List ByteArray) (h : Dk base w d v (recsOf l) ver rule) (s : Sd) (hs : SdOk base w s) (hbw : base ≤ w.heap.size) (he : s.e = entsOf l) (hg : s.g = []) (hlen : l.length ≤ 100) (htx : ∀ t ∈ l, t.size ≤ 500) :
    Calls Tryz.prog 13 #[.pointer (some ⟨d, 0, none⟩), sdV s] w (DkPost base d v (recsOf l) ver rule w) := by
  obtain ⟨W0, hW0⟩ : ∃ W0, (w.alloc (.cells #[.slice s.ea s.e.length s.ec, .slice s.ga s.g.length s.gc, .slice s.pa s.p.length s.pc, .slice s.ra s.r.length s.rc] 28)).alloc (.cells #[.slice none 0 0] 68) = W0 := ⟨_, rfl⟩
  have hb0 : Below w.heap.size w W0 := by rw [← hW0]; exact ((Below.refl _ _).alloc (Nat.le_refl _) _).alloc (by simp) _
  have hz0 : W0.heap.size = w.heap.size + 2 := by rw [← hW0]; simp
  have hbx : SdBox W0 w.heap.size s := by rw [← hW0]; exact ⟨by simp [go_sem], by simp [go_sem], by simp [go_sem], by simp [go_sem]⟩
  have htd : W0.heap[w.heap.size + 1]? = some (.cells #[.slice none 0 0] 68 (0, 0)) := by rw [← hW0]; simpa using heap_alloc_new (w.alloc (.cells #[.slice s.ea s.e.length s.ec, .slice s.ga s.g.length s.gc, .slice s.pa s.p.length s.pc, .slice s.ra s.r.length s.rc] 28)) (.cells #[.slice none 0 0] 68)
  have hvl : ∀ j, some j = v.ownBlock → base ≤ j ∧ j < w.heap.size := fun j hj => h.own.lt j hj.symm
  have HVL := Lib.hid hvl
  have HS := Lib.hid (fun wr (hb : Below base w wr) => hs.old hb)
  have HI0 := Lib.hid (show SInv base w d v l ver rule s 0 (.slice none 0 0) W0 from ⟨h.below hb0, (Kept.of_below hb0 _), htd, by simpa [toldOf] using Own.nil (Rd.int .i64) (fun _ => True) W0 (w.heap.size + 2) 3, hbx⟩)
  have HDL := Lib.hid h.lt
  have hel : s.e.length = l.length := by rw [he, entsOf_len]
  have HE := Lib.hid he
  have HTX := Lib.hid htx
  have hg0 : s.g.length = 0 := by rw [hg]; rfl
  obtain ⟨x0, x1, x2, x3⟩ := hbx
  have HW0 := Lib.hid hW0
  have HZ0 := Lib.hid hz0
  obtain ⟨i0, hi, hz0', hz1, hz2⟩ := int_info0
  have HI := Lib.hid hi; have HZ := Lib.hid hz0'; have HZ1 := Lib.hid hz1; have HZ2 := Lib.hid hz2
  unfold sdV
  rw [hg0, hel] at HW0 ⊢
  rw [hg0] at x1
  rw [hel] at x0
  have HEL := Lib.hid hel
  have HG0 := Lib.hid hg0
  have x0' := x0
  clear h hs hvl hb0 htd hW0 hz0 he hg hel hg0 htx hi hz0' hz1 hz2
  go_enter Tryz.func13, Tryz.ntmps13
  go_upto_region 2 with fail
  rw [HW0.out]
  go_wp2_with fail
  go_loopw [16] (fun v16 wr => v16 = .int .i64 0 ∧ W0 = wr) (fun _ _ => 0)
  case atStart => exact ⟨rfl, rfl⟩
  case round =>
    obtain ⟨rfl, rfl⟩ := hrel
    go_wp2_with fail
    go_loopw [32] (fun v32 wr => ∃ (k : Nat) (vt : Value), k ≤ l.length ∧ v32 = .int .i64 k ∧ Hid (SInv base w d v l ver rule s k vt wr)) (fun v32 _ => l.length - (intOf v32).toNat)
    case atStart => exact ⟨0, _, by omega, rfl, HI0⟩
    case round =>
      obtain ⟨k, vt, hk, rfl, hI⟩ := hrel
      clear HI0 x0 x1 x2 x3 x0'
      by_cases hkl : k < l.length
      · obtain ⟨t, htl⟩ := some_at hkl
        have hBw : Below base w wr := hI.out.kept.below hbw (fun j hj => (HVL.out j hj).1)
        have hsw := HS.out wr hBw
        obtain ⟨bb, oo, hao, hs1, hb1, hok, y0, y1, y2, y3⟩ := ent_get hsw.e (by rw [HE.out]; exact entsOf_at htl)
        obtain ⟨x0, x1, x2, x3⟩ := hI.out.box
        rw [HEL.out] at x0
        simp only [mkE] at y0 y1 y2 y3 hok
        have hkl2 : (k : Int) < (l.length : Int) := by omega
        have hwr := hI.out.kept.size
        have hwl : w.heap.size + 1 < wr.heap.size := (Array.getElem?_eq_some_iff.1 hI.out.told).1
        obtain ⟨W1, hW1⟩ : ∃ x, wr.alloc (.cells #[.int .i64 ((k : Int) + 1), .int .i64 0, .int .i64 (2 * (k : Int) + 1), .string t] 30) = x := ⟨_, rfl⟩
        have hb1W : Below wr.heap.size wr W1 := by rw [← hW1]; exact (Below.refl _ _).alloc (Nat.le_refl _) _
        have hD1 := hI.out.dk.below hb1W
        have hP := put_stay hD1 (by rw [recsOf_len]; omega) (mkE k t) hok k (mkR k t) (idx_recs htl) (recsOf_at htl) rfl rfl rfl rfl rfl (by simp [mkE]; omega)
        unfold encEnt at hP
        simp only [mkE] at hP
        have HP := Lib.hid hP
        have htd1 := (hb1W.block _ (by have := (Array.getElem?_eq_some_iff.1 hI.out.told).1; exact this)).trans hI.out.told
        have z0 : W1.cell? ⟨wr.heap.size, 0, none⟩ = some (.int .i64 ((k : Int) + 1)) := by rw [← hW1]; simp [go_sem]
        have hWz : wr.heap.size < W1.heap.size := by rw [← hW1]; simp
        have HW1 := Lib.hid hW1
        have HB1 := Lib.hid hb1W
        have HT1 := Lib.hid htd1
        have HTL := Lib.hid htl
        rw [hao] at x0 ⊢
        clear hD1 hP htd1 hW1 hok hsw hb1W htl hBw hao
        go_upto_region 11 with fail
        rw [HW1.out]
        clear y0 y1 y2 y3
        have z1 : W1.cell? ⟨wr.heap.size, 1, none⟩ = some (.int .i64 0) := by rw [← HW1.out]; simp [go_sem]
        have z2 : W1.cell? ⟨wr.heap.size, 2, none⟩ = some (.int .i64 (2 * (k : Int) + 1)) := by rw [← HW1.out]; simp [go_sem]
        have z3 : W1.cell? ⟨wr.heap.size, 3, none⟩ = some (.string t) := by rw [← HW1.out]; simp [go_sem]
        go_wp2_with fail
        refine HP.out.mono ?_
        rintro e w2 ⟨rfl, hD2, hK2⟩
        have hbtn : ¬ some (w.heap.size + 1) = v.ownBlock := fun e => by have := (HVL.out _ e).2; omega
        have hbsn : ¬ some w.heap.size = v.ownBlock := fun e => by have := (HVL.out _ e).2; omega
        have hben : ¬ some wr.heap.size = v.ownBlock := fun e => by have := (HVL.out _ e).2; omega
        have htdlt := (Array.getElem?_eq_some_iff.1 HT1.out).1
        have ht2 := (hK2.block _ htdlt hbtn).trans HT1.out
        have z0 := (hK2.cell (p := ⟨wr.heap.size, 0, none⟩) hWz hben).trans z0
        have t0 := cell_of_row w2 _ 0 _ _ _ ht2
        have hO2 := (hI.out.own.below HB1.out).flat (S' := fun _ => True) int_flat3 hK2 (fun j hj h2 => by have := (hI.out.own.lt j hj).1; have := (HVL.out j h2).2; omega)
        have HO2 := Lib.hid hO2
        have hz2 : w.heap.size + 2 ≤ w2.heap.size := by have := hK2.size; have := HB1.out.size; omega
        have HTK := Lib.hid (fun W' (hk : Kept (fun j => some j = vt.ownBlock) w2 W') => show W'.cell? ⟨w.heap.size + 1, 0, none⟩ = some vt ∧ W'.frozen? ⟨w.heap.size + 1, 0, none⟩ = false ∧ W'.heap[w.heap.size + 1]? = some (.cells #[vt] 68 (0, 0)) by
          have hlt2 : w.heap.size + 1 < w2.heap.size := by omega
          have h1 := (hk.block _ hlt2 (fun e => by have := (HO2.out.lt _ e.symm).1; omega)).trans ht2
          exact ⟨cell_of_row W' _ 0 _ _ _ h1, frozen_of_row W' _ _ _ _ h1, h1⟩)
        have HD2 := Lib.hid hD2
        have HK2 := Lib.hid hK2
        have htl2 : (toldOf k).length ≤ 100 := by rw [toldOf_len]; omega
        have HX3 := Lib.hid (show SdBox w2 w.heap.size s from ((hI.out.box.old HB1.out (by omega))).kept' HK2.out (by have := HB1.out.size; omega) hbsn)
        have hbt2 : w.heap.size + 1 < w2.heap.size := by omega
        clear hD2 hK2 hO2 ht2 z1 z2 z3 HP x0 x1 x2 x3 hbtn hbsn hben htdlt hWz hwr
        go_wp2_with (first | (at_builtin; refine wpList_push (Rd.int .i64) rfl _ _ 68 rfl (w.heap.size + 2) 3 i0 _ 8 Tryz.underlying68 HI.out HZ.out HZ1.out HZ2.out rfl (by decide) (fun _ => True) _ (toldOf k) rfl HO2.out [.int .i64 ((k : Int) + 1)] ((k : Int) + 1) _ rfl (by simp) ⟨rfl, Wf.of (by omega) (by omega)⟩ (by simp [Value.oneCell']) (by unfold maxLen; omega) (by omega) hz2 ?_; intro v3 w3 hO3 hK3 hw3; obtain ⟨ao3, cap3, rfl⟩ := hO3.form; obtain ⟨y0, y1, y2⟩ := HTK.out _ hK3))
        have hlt3 : w.heap.size + 1 < w3.heap.size := by have := hK3.size; omega
        have hK4 := Kept.setCell (X := fun j => j = w.heap.size + 1) w3 (p := ⟨w.heap.size + 1, 0, none⟩) rfl (.slice ao3 (toldOf k ++ [(k : Int) + 1]).length cap3)
        have hvt : ∀ j, some j = vt.ownBlock → w.heap.size + 2 ≤ j := fun j hj => (HO2.out.lt j hj.symm).1
        have hD3 := HD2.out.kept hK3 (fun e => by have := hvt _ e; have := HDL.out; omega) (fun j hj e => by have := hvt _ e; have := (HVL.out j hj.symm).2; omega)
        have hD4 := hD3.kept hK4 (fun e => by have := HDL.out; omega) (fun j hj e => by have := (HVL.out j hj.symm).2; omega)
        have hX4 := (HX3.out.kept' hK3 (by omega) (fun e => by have := hvt _ e; omega)).kept' hK4 (by omega) (fun e => by omega)
        have hO4 := hO3.flat (S' := fun _ => True) int_flat3 hK4 (fun j hj e => by have := (hO3.lt j hj).1; omega)
        have hT4 := heap_setCell_same w3 (w.heap.size + 1) 0 _ _ (.slice ao3 (toldOf k ++ [(k : Int) + 1]).length cap3) y2
        have hKK : Kept (fun j => some j = v.ownBlock) w w2 := (hI.out.kept.step HB1.out).trans HK2.out (fun _ _ h => h) (fun _ _ h => h)
        have hK3' : Kept (fun j => some j = v.ownBlock) w w3 := hKK.trans hK3 (fun _ _ h => h) (fun j hj e => by have := hvt _ e; omega)
        have hK4' : Kept (fun j => some j = v.ownBlock) w _ := hK3'.trans hK4 (fun _ _ h => h) (fun j hj e => by omega)
        have HF := Lib.hid (show SInv base w d v l ver rule s (k + 1) (.slice ao3 (toldOf k ++ [(k : Int) + 1]).length cap3) (w3.setCell ⟨w.heap.size + 1, 0, none⟩ (.slice ao3 (toldOf k ++ [(k : Int) + 1]).length cap3)) from ⟨hD4, hK4', hT4, by rw [toldOf_succ]; exact hO4, hX4⟩)
        rw [List.length_append] at HF
        clear hD3 hD4 hX4 hO4 hT4 hKK hK3' hK4' hK4
        go_roundw
        case measure => simp [intOf]; omega
        case rel => exact ⟨k + 1, _, by omega, by go_num, HF⟩
      · obtain rfl : k = l.length := by omega
        obtain ⟨WL, rfl⟩ : ∃ x : World, x = wr := ⟨_, rfl⟩
        obtain ⟨ao, cap, rfl⟩ := hI.out.dk.own.form
        obtain ⟨at', ct, hvt⟩ := hI.out.own.form
        have hwl : w.heap.size + 1 < WL.heap.size := (Array.getElem?_eq_some_iff.1 hI.out.told).1
        obtain ⟨W1, hW1⟩ : ∃ x, WL.alloc (.cells #[.func (.func 30) #[] #[.pointer (some ⟨w.heap.size + 1, 0, none⟩)]] 53) = x := ⟨_, rfl⟩
        have hb1W : Below WL.heap.size WL W1 := by rw [← hW1]; exact (Below.refl _ _).alloc (Nat.le_refl _) _
        have hWz : WL.heap.size < W1.heap.size := by rw [← hW1]; simp
        have hfn : W1.cell? ⟨WL.heap.size, 0, none⟩ = some (.func (.func 30) #[] #[.pointer (some ⟨w.heap.size + 1, 0, none⟩)]) := by rw [← hW1]; simp [go_sem]
        have ht1 := (hb1W.block _ hwl).trans hI.out.told
        have htc := cell_of_row W1 _ 0 _ _ _ ht1
        simp only [List.getElem?_toArray, List.getElem?_cons_zero] at htc
        have hD1 := hI.out.dk.below hb1W
        have hO1 := hI.out.own.below hb1W
        rw [hvt] at htc hO1
        have hsl := hO1.here
        have hPr := isGone WL.heap.size (w.heap.size + 1) at' ct (toldOf l.length) W1.heap.size W1 hfn htc (by omega) (by omega) (Nat.le_refl _) hsl (by rw [toldOf_len]; omega)
        have HC := Lib.hid (delete_none ao cap (recsOf l) _ _ _ W1 hD1.own.here (by rw [recsOf_len]; omega) hPr not_gone)
        obtain ⟨c0, c1, c2⟩ := hD1.cells
        have HD1 := Lib.hid hD1
        have HW1 := Lib.hid hW1
        have hdl1 := hD1.lt
        have HK1 := Lib.hid (hI.out.kept.step hb1W)
        have HTC := Lib.hid htc
        have HSL := Lib.hid hsl
        have HFN := Lib.hid hfn
        have HRL := Lib.hid (recsOf_len l)
        have hlL : (recsOf l).length ≤ 100 := by rw [recsOf_len]; omega
        clear ht1 hD1 hO1 hsl hPr hvt hW1 hb1W hI
        go_upto_region 16 with fail
        rw [HW1.out]
        go_wp2_with fail
        all_goals
          refine HC.out.mono ?_
          rintro e w3 ⟨rfl, hb3⟩
          have hD3 := HD1.out.below hb3
          obtain ⟨e0, e1, e2⟩ := hD3.cells
          have g0 := hD3.free 0
          have hdl3 := hD3.lt
          have HSE := Lib.hid (setCell_self2 e0)
          have HD3 := Lib.hid hD3
          have HB3 := Lib.hid hb3
          have HW3 := Lib.hid hb3.size
          clear hD3 hb3 c0 c1 c2 e1 e2
          go_upto_region 17 with fail
          rw [HSE.out]
          go_wp2_with fail
          go_loopw [61] (fun v61 wr => ∃ k : Nat, k ≤ l.length ∧ v61 = .int .i64 k ∧ Below w3.heap.size w3 wr) (fun v61 _ => l.length - (intOf v61).toNat)
          case atStart => exact ⟨0, by omega, rfl, Below.refl _ _⟩
          case round =>
            obtain ⟨k, hk, rfl, hb⟩ := hrel
            by_cases hkl : k < l.length
            · obtain ⟨t, htl⟩ := some_at hkl
              have hkl2 : (k : Int) < ((recsOf l).length : Int) := by rw [recsOf_len]; omega
              have hD := HD3.out.below hb
              obtain ⟨bb, oo, rfl, hs1, hb1, hok, y0, y1, y2, y3, y4, y5, y6, y7, y8⟩ := rec_get hD.own.here (recsOf_at htl)
              simp only [mkR] at y0 y1 y2 y3 y4 y5 y6 y7 y8
              have hB1 := chain HB3.out hb
              obtain ⟨W2, hW2⟩ : ∃ x, wr.alloc (.cells #[.int .i64 (2 * (k : Int) + 3), .bool true, .int .i64 (2 * (k : Int) + 1), .string t, .int .i64 ((k : Int) + 1), .int .i64 (2 * (k : Int) + 1), .string t, .int .i64 0, .string ⟨#[]⟩] 32) = x := ⟨_, rfl⟩
              have hb2 : Below wr.heap.size wr W2 := by rw [← hW2]; exact (Below.refl _ _).alloc (Nat.le_refl _) _
              have hb12 := chain hB1 hb2
              have hfn2 := (hb12.cell (p := ⟨WL.heap.size, 0, none⟩) hWz).trans HFN.out
              have htc2 := (hb12.cell (p := ⟨w.heap.size + 1, 0, none⟩) (Nat.lt_trans hwl hWz)).trans HTC.out
              have hbt2 : w.heap.size + 1 < W2.heap.size := Nat.lt_of_lt_of_le (Nat.lt_trans hwl hWz) hb12.size
              have hCL := lost_any (w.heap.size + 1) at' ct (toldOf l.length) (mkR k t) hok W2 htc2 hbt2 (HSL.out.old hb12).here (by rw [toldOf_len]; omega)
              rw [not_lost (List.mem_of_getElem? (recsOf_at htl))] at hCL
              unfold encRec at hCL
              simp only [mkR] at hCL
              have HCL := Lib.hid hCL
              have hen := lost_enters
              have HBF := Lib.hid (chain hb hb2)
              have HW2 := Lib.hid hW2
              have hX2 : RecBox W2 wr.heap.size (mkR k t) := by rw [← hW2]; exact heap_alloc_new _ _
              obtain ⟨q0, q1, q2, q3, q4, q5, q6, q7, q8⟩ := hX2.cells
              simp only [mkR] at q0 q1 q2 q3 q4 q5 q6 q7 q8
              clear hCL hW2 hX2 hb hb2 hB1 hb12 htc2 hok hD htl
              go_upto_region 20 with fail
              rw [HW2.out]
              clear y0 y1 y2 y3 y4 y5 y6 y7 y8
              go_wp2_with fail
              refine HCL.out.mono ?_
              rintro e w5 ⟨rfl, hb5⟩
              go_wp2_with fail
              go_roundw
              case measure => simp [intOf]; omega
              case rel => exact ⟨k + 1, by omega, by go_num, chain HBF.out hb5⟩
            · obtain rfl : k = l.length := by omega
              have hnl : ¬ (l.length : Int) < ((recsOf l).length : Int) := by rw [recsOf_len]; omega
              have HDF := Lib.hid (HD3.out.below hb)
              have HKF := Lib.hid ((HK1.out.step HB3.out).step hb)
              clear hb
              go_wp2_with fail
              go_ret
              exact ⟨rfl, HDF.out, HKF.out⟩
end Go.Proofs.YtefefpiealknlaaGreatDoor
