/- A keep made, written, laid anew and opened: what comes of it, reckoned out. -/
import Derived.Test.YtdebfnlnpfienaaGreatDoorKe21
import Derived.Test.YtdebfnlnpfienaaGreatDoorKeInv
import Derived.Test.YtdebfnlnpfienaaGreatDoorKeLaw
namespace Go.Proofs.YtdebfnlnpfienaaGreatDoor
open Go.RowKit Lift
set_option linter.unusedSimpArgs false
set_option linter.unusedVariables false

def wkL : List KW := [(⟨#[97]⟩, ⟨#[49]⟩, false)]
def wk1 : St := (formR (St.new 40)).1
def wk2 : KR := comR wk1 (JSt.new (plcN (St.new 40) 0) (halfN (St.new 40)) 0) KSt.new wkL
def wk3 : KR := compR wk2.st wk2.js wk2.ks
set_option maxRecDepth 1000000 in
theorem wk_er : (formR (St.new 40)).2 = 0 ∧ wk2.er = 0 ∧ wk3.er = 0 := by decide +kernel
set_option maxRecDepth 1000000 in
theorem wk_open : (openQ wk3.st).2 = 0 ∧ findG wk3.st = 1 := by decide +kernel
set_option maxRecDepth 1000000 in
theorem wk_recs : (openJs wk3.st).recs.map (·.data.toList) = [wkL].map (fun l => (recB l).data.toList) := by decide +kernel
end Go.Proofs.YtdebfnlnpfienaaGreatDoor

/- A keep works. -/
namespace Go.Proofs.YtdebfnlnpfienaaGreatDoor
open Go.RowKit Lift
set_option linter.unusedSimpArgs false
set_option linter.unusedVariables false

theorem wk_len : wk1.no.length = 40 ∧ wk1.lo.length = 0 ∧ wk2.st.no.length = 40 ∧ wk2.st.lo.length = 0 ∧ wk3.st.no.length = 40 ∧ wk3.st.lo.length = 0 := by decide +kernel
theorem wk_right : wkL.any (fun c => !rightW c) = false ∧ wkL.length = 1 ∧ (recB wkL).size ≤ 100000000 := by decide +kernel
theorem wk_recs2 : (openJs wk3.st).recs = [wkL].map recB := by
  have h := wk_recs
  have inj : ∀ (a b : List ByteArray), a.map (·.data.toList) = b.map (·.data.toList) → a = b := fun a b => by
    induction a generalizing b with
    | nil => cases b with
      | nil => intro _; rfl
      | cons _ _ => intro h; cases h
    | cons x r ih => cases b with
      | nil => intro h; cases h
      | cons y s =>
        intro h
        simp only [List.map_cons, List.cons.injEq] at h
        rw [ih s h.2, ByteArray.ext (Array.toList_inj.1 h.1)]
  apply inj
  rw [h]; simp
theorem wk_get : kget (openK wk3.st [wkL]).kv ⟨#[97]⟩ = some ⟨#[49]⟩ := by
  show kget ([wkL].flatten.foldl kdo []) ⟨#[97]⟩ = _
  rfl
set_option maxHeartbeats 4000000 in
set_option maxRecDepth 100000 in
theorem works_any (w : World) : Calls Tryz.prog 5 #[] w (BelowPost (.bool true) w) := by
  have HNw := Lib.hid (new_any w 40 (by omega) (by omega))
  obtain ⟨l1, l2, l3, l4, l5, l6⟩ := wk_len
  obtain ⟨e1, e2, e3⟩ := wk_er
  go_enter Tryz.func5, Tryz.ntmps5
  go_wp2_with fail
  refine HNw.out.mono ?_
  rintro e w2 ⟨F0, rfl, hR0, hb2⟩
  have HFm := Lib.hid ((kformat_any hR0 (by simp [St.new]) (by simp [St.new])).mono (R' := fun e w3 => ∃ F1 J1 K1, e = .returned (.tuple #[.pointer (some ⟨K1.b, 0, none⟩), .int .i64 0]) ∧ Hid (KRaw w.heap.size w3 F1 wk1 J1 (JSt.new (plcN (St.new 40) 0) (halfN (St.new 40)) 0) K1 KSt.new) ∧ F1.b = F0.b ∧ Below w.heap.size w w3) (fun e w3 hp => by
    unfold KMade at hp
    rw [e1, if_pos rfl] at hp
    obtain ⟨F1, J1, K1, g1, g2, g3, g4, g5⟩ := hp
    exact ⟨F1, J1, K1, g1, Lib.hid g2, g3, hb2.trans (g5.below hb2.size (fun k hk => hR0.ge k hk))⟩))
  clear HNw hR0 hb2
  go_wp2_with fail
  refine HFm.out.mono ?_
  rintro e w3 ⟨F1, J1, K1, rfl, HK1, hF1, hb3⟩
  have hz3 := hb3.size
  obtain ⟨w4, hw4⟩ : ∃ x, w3.alloc (.cells #[.string ⟨#[97]⟩, .string ⟨#[49]⟩, .bool false] 50) = x := ⟨_, rfl⟩
  have hb4 : Below w3.heap.size w3 w4 := by rw [← hw4]; exact (Below.refl _ _).alloc (Nat.le_refl _) _
  have hz4 : w4.heap.size = w3.heap.size + 1 := by rw [← hw4]; simp
  have hc4 : w4.heap[w3.heap.size]? = some (.cells #[.string ⟨#[97]⟩, .string ⟨#[49]⟩, .bool false] 50 (0, 0)) := by rw [← hw4]; exact heap_alloc_new w3 _
  have hS : SlAt rKw (fun b => ¬ kfoot F1 J1 K1 b ∧ b < w4.heap.size) w4 (some ⟨w3.heap.size, 0, none⟩) wkL := by
    refine .inr ⟨w3.heap.size, 0, rfl, ⟨fun hf => by have := HK1.out.inb _ hf; omega, by omega⟩, by omega, fun k c hk => ?_⟩
    match k, hk with
    | 0, hk =>
      simp [wkL] at hk; subst hk
      refine ⟨_, kw_rel _ _ (⟨#[97]⟩, ⟨#[49]⟩, false) (by decide) (by decide), fun i v hi => ?_⟩
      match i, hi with
      | 0, hi => simp at hi; subst hi; rw [Lib.cell_of_heap hc4]; rfl
      | 1, hi => simp at hi; subst hi; rw [Lib.cell_of_heap hc4]; rfl
      | 2, hi => simp at hi; subst hi; rw [Lib.cell_of_heap hc4]; rfl
      | k + 3, hi => simp at hi
    | k + 1, hk => simp [wkL] at hk
  have HCo := Lib.hid (show Calls Tryz.prog 10 #[.pointer (some ⟨K1.b, 0, none⟩), .slice (some ⟨w3.heap.size, 0, none⟩) 1 1] w4 (KPost w.heap.size F1 J1 K1 wk2.st wk2.js wk2.ks (.int .i64 0) w4) from e2 ▸ commit_any (HK1.out.below hb4) (by omega) (by omega) (some ⟨w3.heap.size, 0, none⟩) 1 wkL hS (by decide) (by decide))
  have HB4 := Lib.hid (hb3.trans (hb4.mono hz3))
  have HW4 := Lib.hid hw4
  clear hw4 hb4 hc4 hS HFm
  go_wp2_with fail
  rw [HW4.out]
  refine HCo.out.mono ?_
  rintro e w5 ⟨F2, J2, rfl, hK2, hF2, hf2, hk2⟩
  have HK2 := Lib.hid hK2
  have HB5 := Lib.hid (HB4.out.trans (hk2.below (by omega) (fun k hk => HK1.out.ge k hk)))
  have HCp := Lib.hid (show Calls Tryz.prog 14 #[.pointer (some ⟨K1.b, 0, none⟩)] w5 (KPost w.heap.size F2 J2 K1 wk3.st wk3.js wk3.ks (.int .i64 0) w5) from e3 ▸ compact_any HK2.out (by omega) (by omega))
  clear hK2 hf2 hk2 HCo HB4
  go_wp2_with fail
  refine HCp.out.mono ?_
  rintro e w6 ⟨F3, J3, rfl, hK3, hF3, hf3, hk3⟩
  have HB6 := Lib.hid (HB5.out.trans (hk3.below (by have := HB5.out.size; omega) (fun k hk => HK2.out.ge k hk)))
  have hFF : F3.b = F0.b := hF3.trans (hF2.trans hF1)
  have hR3 := hK3.jr.raw
  have HOp := Lib.hid ((kopen_any hR3 (by omega) (by omega) [wkL] (fun _ => wk_recs2) (fun l hl => by
    obtain rfl : l = wkL := by simpa using hl
    exact ⟨wk_right.1, by decide, wk_right.2.2⟩) (by decide)).mono (R' := fun e w7 => ∃ F4 J4 K4, e = .returned (.tuple #[.pointer (some ⟨K4.b, 0, none⟩), .int .i64 0]) ∧ Hid (KRaw w.heap.size w7 F4 (openQ wk3.st).1 J4 (openJs wk3.st) K4 (openK wk3.st [wkL])) ∧ Hid (Below w.heap.size w w7)) (fun e w7 hp => by
    unfold KMade at hp
    rw [wk_open.1, if_pos rfl] at hp
    obtain ⟨F4, J4, K4, g1, g2, g3, g4, g5⟩ := hp
    exact ⟨F4, J4, K4, g1, Lib.hid g2, Lib.hid (HB6.out.trans (g5.below HB6.out.size (fun k hk => hR3.ge k hk)))⟩))
  rw [hFF] at HOp
  clear hK3 hf3 hk3 HCp HB5 hR3
  go_wp2_with fail
  refine HOp.out.mono ?_
  rintro e w7 ⟨F4, J4, K4, rfl, HK4, HB7⟩
  have HGt := Lib.hid (get3_any HK4.out ⟨#[97]⟩ (by decide))
  rw [wk_get] at HGt
  have HGn := Lib.hid (gen_any HK4.out)
  rw [show (openK wk3.st [wkL]).gen = 1 from wk_open.2] at HGn
  clear HOp
  go_wp2_with fail
  refine HGt.out.mono ?_
  rintro e w8 ⟨rfl, rfl⟩
  go_wp2_with fail
  refine HGn.out.mono ?_
  rintro e w9 ⟨rfl, rfl⟩
  go_wp2_with fail
  go_ret
  exact ⟨rfl, HB7.out⟩
end Go.Proofs.YtdebfnlnpfienaaGreatDoor
