/- A keep opened. -/
import Derived.Test.YtdebfnlnpfienaaGreatDoorKeG
import Derived.Test.YtdebfnlnpfienaaGreatDoorOrdRange
import Derived.Test.YtdebfnlnpfienaaGreatDoorJnE
namespace Go.Proofs.YtdebfnlnpfienaaGreatDoor
open Go.RowKit Lift Go.Maps Go.Shelf
set_option linter.unusedSimpArgs false
set_option linter.unusedVariables false
attribute [local go_sem] Oper.semAt_some

def openN (st : St) : JSt := JSt.new (plcN st (findG st)) (halfN st) (findG st)
def openQ (st : St) : St × Int := if findE st = 0 then openR (findS st) (openN st) else (findS st, findE st)
def openJs (st : St) : JSt := openJ (findS st) (openN st)
def openK (st : St) (ls : List (List KW)) : KSt := { kv := ls.flatten.foldl kdo [], gen := findG st, dead := false, cnt := ls.flatten.length }
/-- A keep behind some of the records. -/
def ksAt (st : St) (ls : List (List KW)) (n : Nat) : KSt := { kv := (ls.take n).flatten.foldl kdo [], gen := findG st, dead := false, cnt := (ls.take n).flatten.length }
theorem ksAt_zero (st : St) (ls : List (List KW)) : ksAt st ls 0 = { kv := [], gen := findG st, dead := false, cnt := 0 } := by simp [ksAt]
theorem ksAt_succ (st : St) {ls : List (List KW)} {n : Nat} {l : List KW} (h : ls[n]? = some l) : ksAt st ls (n + 1) = (ksAt st ls n).doing l := by
  have : (ls.take (n + 1)).flatten = (ls.take n).flatten ++ l := by rw [take_at2 h, List.flatten_append]; simp
  simp only [ksAt, KSt.doing, this, List.foldl_append, List.length_append]
theorem ksAt_all (st : St) (ls : List (List KW)) : ksAt st ls ls.length = openK st ls := by simp only [ksAt, openK, List.take_length]
theorem findS_len (st : St) : (findS st).no.length = st.no.length := by
  unfold findS; split
  · rfl
  · split
    · split
      · rfl
      · exact runOps_len _ _
    · rfl
theorem findS_lo (st : St) : (findS st).lo.length ≤ st.lo.length + 2 := by
  have h := runOps_lo (sureOps emB [1 - (find2 st).2 % 2]) st
  have h2 : (sureOps emB [1 - (find2 st).2 % 2]).length = 2 := rfl
  unfold findS; split
  · omega
  · split
    · split
      · omega
      · omega
    · omega
theorem findG_lt (st : St) : findG st < 4294967296 := by
  unfold findG; split
  · omega
  · exact findAt_lt st 2
set_option maxRecDepth 100000 in
set_option maxHeartbeats 2000000 in
theorem vals1_good (n : Nat) (hn : 1 ≤ n) (lp Bs : Nat) (X : Nat → Prop) (ao : Option Addr) (cap : Nat) (l : List ByteArray) (hlen : l.length ≤ 100000) (W0 : World) (J : List ByteArray → World → Prop) (hg : ∀ pre W, J pre W → Kept X W0 W)
    (W : World) (hY : ∀ pre x W1, J pre W1 → pre ++ [x] <+: l → YieldAt Fence.wide (n - 1) Tryz.prog lp (encS x) W1 fun e W' => e = .returned (.bool true) ∧ J (pre ++ [x]) W')
    (hBs : W0.cell? ⟨Bs, 0, none⟩ = some (.slice ao l.length cap)) (hBl : Bs < W0.heap.size) (hBx : ¬ X Bs) (hl : SlAt Rd.str (fun b => ¬ X b) W0 ao l) (h0 : J [] W) :
    CallsIn Fence.wide n Tryz.prog 96 #[.func (.yield lp) #[] #[], .pointer (some ⟨Bs, 0, none⟩)] W fun e W' => (∃ v, e = .returned v) ∧ ∃ xs, xs = l ∧ J xs W' := by
  have hB0 := ((hg _ _ h0).cell (p := ⟨Bs, 0, none⟩) hBl hBx).trans hBs
  refine callsIn_of_wp Tryz.func96 rfl trivial ?_ rfl
  simp only [Tryz.ntmps96, List.size_toArray, List.length_cons, List.length_nil, Nat.reduceAdd, Nat.reduceSub, Array.replicate_succ, Array.replicate_zero, List.push_toArray, List.append_toArray, List.nil_append, List.cons_append]
  gi_wp2
  gi_loopw [7] (fun v wr => ∃ k : Nat, k ≤ l.length ∧ v = .int .i64 k ∧ J (l.take k) wr) (fun v _ => l.length - (intOf v).toNat)
  case atStart => exact ⟨0, Nat.zero_le _, rfl, by simpa using h0⟩
  case round =>
    obtain ⟨k, hk, rfl, hJ⟩ := hrel
    by_cases hkl : k < l.length
    · obtain ⟨c, hcl⟩ := some_at hkl
      obtain ⟨b, off, rfl, _, hlt, _, hcell⟩ := str_get (hl.kept (hg _ _ hJ) (fun b hb _ => hb)) hcl
      have hkl2 : (k : Int) < (l.length : Int) := by omega
      obtain ⟨fn, tmps, assign, body, hy, hR⟩ := hY (l.take k) c wr hJ (by rw [← take_at2 hcl]; exact List.take_prefix _ _)
      rw [← take_at2 hcl] at hR
      dsimp only [encS] at hy
      gi_wp2
      refine hR.mono ?_
      rintro e W3 ⟨rfl, hJ3⟩
      gi_wp2
      go_roundw
      case measure => simp [intOf]; omega
      case rel => exact ⟨k + 1, by omega, by go_num, hJ3⟩
    · obtain rfl : k = l.length := by omega
      gi_wp2
      go_end0
      exact ⟨⟨_, rfl⟩, _, rfl, by rwa [List.take_length] at hJ⟩
set_option maxHeartbeats 8000000 in
set_option maxRecDepth 100000 in
theorem kopen_any {base : Nat} {w : World} {F : Fp} {st : St} (h : Raw base w F st) (hn : 10 ≤ st.no.length) (hlo : st.lo.length ≤ 100000) (ls : List (List KW)) (hls : (openQ st).2 = 0 → (openJs st).recs = ls.map recB) (hrt : ∀ l ∈ ls, l.any (fun c => !rightW c) = false ∧ l.length ≤ 1000 ∧ (recB l).size ≤ 100000000) (hsum : ls.flatten.length ≤ 1000000) :
    Calls Tryz.prog 17 #[.pointer (some ⟨F.b, 0, none⟩)] w (KMade base F (openQ st).1 (openQ st).2 (openJs st) (openK st ls) w) := by
  have hn2 := h.n2
  have hlt := h.inb F.b (.inl rfl)
  have HSz := Lib.hid (fun w1 (hb : Below w.heap.size w w1) => size_any (h.below hb))
  have H := Lib.hid h
  have hd10 : ¬ (st.no.length : Int) < 10 := by omega
  have hbase := h.base_le
  have hmm := @run_makeMap Tryz.prog
  have hFi := h.inb
  clear h
  refine (callsIn_wide (n := 6)).1 (callsIn_of_wp_marks Tryz.func17 rfl trivial (wpIn_wide.2 ?_) rfl)
  simp only [Tryz.ntmps17, List.size_toArray, List.length_cons, List.length_nil, Nat.reduceAdd, Nat.reduceSub, Array.replicate_succ, Array.replicate_zero, List.push_toArray, List.append_toArray, List.nil_append, List.cons_append]
  go_wp2_with fail
  obtain ⟨W1, hW1⟩ : ∃ x, (w.alloc (.cells #[.pointer none] 28)).alloc (.cells #[.int .i64 0] 25) = x := ⟨_, rfl⟩
  have hb1 : Below w.heap.size w W1 := by rw [← hW1]; exact ((Below.refl _ w).alloc (Nat.le_refl _) _).alloc (by simp) _
  have hz1 : W1.heap.size = w.heap.size + 2 := by rw [← hW1]; simp
  have b2 : W1.heap[w.heap.size]? = some (.cells #[.pointer none] 28 (0, 0)) := by rw [← hW1]; exact (((Below.refl _ _).alloc (Nat.le_refl _) _).block w.heap.size (by simp)).trans (heap_alloc_new w _)
  have b3 : W1.heap[w.heap.size + 1]? = some (.cells #[.int .i64 0] 25 (0, 0)) := by rw [← hW1]; have := heap_alloc_new (w.alloc (.cells #[.pointer none] 28)) (.cells #[.int .i64 0] 25); rw [World.size_alloc] at this; exact this
  have HS1 := Lib.hid (HSz.out W1 hb1)
  rw [hW1]
  clear hW1 HSz
  refine HS1.out.mono ?_
  rintro e w1 ⟨rfl, rfl⟩
  obtain ⟨mb, hmb⟩ : ∃ m, W1.heap.size = m := ⟨_, rfl⟩
  have hmw : mb = w.heap.size + 2 := by omega
  have HMW := Lib.hid hmw
  have hmw1 : w.heap.size + 2 ≤ mb := by omega
  obtain ⟨kb, hkb⟩ : ∃ k, mb + 1 = k := ⟨_, rfl⟩
  obtain ⟨pb, hpb⟩ : ∃ k, kb + 1 = k := ⟨_, rfl⟩
  clear hz1 hmw
  obtain ⟨W4, hW4⟩ : ∃ x, ((W1.alloc (.map #[] 0)).alloc (.cells #[.pointer (some ⟨F.b, 0, none⟩), .map (some mb), .int .u32 0, .pointer none, .bool false] 68)).alloc (.cells #[.pointer (some ⟨kb, 0, none⟩)] 28) = x := ⟨_, rfl⟩
  have hb4 : Below W1.heap.size W1 W4 := by rw [← hW4]; exact (((Below.refl _ W1).alloc (Nat.le_refl _) _).alloc (by simp) _).alloc (by simp; omega) _
  have hz4 : W4.heap.size = mb + 3 := by rw [← hW4]; simp; omega
  have HMap : Hid (KMap Tryz.prog 9 9 W4 mb 0 []) := Lib.hid (by
    rw [← hW4, ← hmb]
    exact SMap.eqf (SMap.below (SMap.below (SMap.made _ _ _ W1) ((Below.refl _ _).alloc (Nat.le_refl _) _)) ((Below.refl _ _).alloc (Nat.le_refl _) _)) (fun x _ => rfl))
  have HPre : Hid (PreK W4 (kb) mb F.b 0) := Lib.hid (by
    rw [← hW4]
    have := heap_alloc_new (W1.alloc (.map #[] 0)) (.cells #[.pointer (some ⟨F.b, 0, none⟩), .map (some mb), .int .u32 0, .pointer none, .bool false] 68)
    rw [World.size_alloc, hmb, hkb] at this
    exact (((Below.refl _ _).alloc (Nat.le_refl _) _).block (kb) (by simp; omega)).trans this)
  have HPt : Hid (W4.heap[pb]? = some (.cells #[.pointer (some ⟨kb, 0, none⟩)] 28 (0, 0))) := Lib.hid (by
    rw [← hW4]
    have := heap_alloc_new ((W1.alloc (.map #[] 0)).alloc (.cells #[.pointer (some ⟨F.b, 0, none⟩), .map (some mb), .int .u32 0, .pointer none, .bool false] 68)) (.cells #[.pointer (some ⟨kb, 0, none⟩)] 28)
    rw [World.size_alloc, World.size_alloc, hmb, hkb, hpb] at this
    exact this)
  have HB2 := Lib.hid ((hb4.block w.heap.size (by omega)).trans b2)
  have HB3 := Lib.hid ((hb4.block (w.heap.size + 1) (by omega)).trans b3)
  have hB4 : Below w.heap.size w W4 := chain hb1 hb4
  have HR4 := Lib.hid (H.out.below hB4)
  have HFi := Lib.hid (find_any HR4.out hn (by omega) HPre.out (fun hf => by have := hFi _ hf; omega) (by omega))
  have HW4 := Lib.hid hW4
  have HB := Lib.hid hB4
  clear hW4 b2 b3 hb4 hb1 hB4
  go_wp2_with fail
  rw [HW4.out]
  clear HW4
  refine HFi.out.mono ?_
  rintro e w5 ⟨rfl, F5, hR5, hF5, hf5, hk5, hp5⟩
  have hz5 := hk5.size
  have HK5 := Lib.hid hk5
  have HB2' := Lib.hid ((hk5.block w.heap.size (by omega) (by rintro (h | h); exact absurd (hFi _ h) (by omega); omega)).trans HB2.out)
  have HB3' := Lib.hid ((hk5.block (w.heap.size + 1) (by omega) (by rintro (h | h); exact absurd (hFi _ h) (by omega); omega)).trans HB3.out)
  have HPt' := Lib.hid ((hk5.block pb (by omega) (by rintro (h | h); exact absurd (hFi _ h) (by omega); omega)).trans HPt.out)
  have HMap' : Hid (KMap Tryz.prog 9 9 w5 mb 0 []) := Lib.hid (SMap.old HMap.out hk5 (by rintro (h | h); exact absurd (hFi _ h) (by omega); omega))
  have HPl : Hid (∀ w9, Kept (fun k => k = w.heap.size ∨ k = w.heap.size + 1) w5 w9 → PlS base F (findS st) w w9) := Lib.hid (fun w9 hk9 =>
    ⟨F5, hR5.kept hk9 (fun k hk hx => by rcases hf5 k hk with h | h; have := hFi _ h; omega; omega), hF5, fun k hk => (hf5 k hk).imp id (fun h => by omega),
      ((Kept.of_below HB.out (fun _ => False)).trans hk5 (Z := foot F) (fun _ _ h => h.elim) (fun k hk h => h.elim id (fun e => by omega))).trans hk9 (fun _ _ h => h) (fun k hk h => by omega)⟩)
  have c2 : w5.cell? ⟨w.heap.size, 0, none⟩ = some (.pointer none) := by rw [Lib.cell_of_heap HB2'.out]; rfl
  have c3 : w5.cell? ⟨w.heap.size + 1, 0, none⟩ = some (.int .i64 0) := by rw [Lib.cell_of_heap HB3'.out]; rfl
  have f2 : w5.frozen? ⟨w.heap.size, 0, none⟩ = false := Lib.frozen_of_heap HB2'.out 0
  have f3 : w5.frozen? ⟨w.heap.size + 1, 0, none⟩ = false := Lib.frozen_of_heap HB3'.out 0
  have c4 : w5.cell? ⟨pb, 0, none⟩ = some (.pointer (some ⟨kb, 0, none⟩)) := by rw [Lib.cell_of_heap HPt'.out]; rfl
  obtain ⟨d0, d1, d2, d3, d4⟩ := hp5.cells
  have HP5 := Lib.hid hp5
  have HR5 := Lib.hid hR5
  have HF5 := Lib.hid hf5
  clear hp5 hR5 hf5 hk5 HB2 HB3 HPt HMap HFi HR4 HPre
  by_cases he : findE st = 0
  · have hQ : openQ st = openR (findS st) (openN st) := by unfold openQ; rw [if_pos he]
    rw [he]
    have hsl := findS_len st
    obtain ⟨p1, p2⟩ := plc_len hsl (findG st)
    obtain ⟨p3, p4, p5⟩ := plc_le st (findG st) hn
    have hGl := findG_lt st
    have HNF := Lib.hid (fun k (h1 : w.heap.size ≤ k) (h2 : k < W4.heap.size) => show ¬ foot F5 k from fun hf => by rcases HF5.out k hf with h | h; exact absurd (hFi _ h) (by omega); omega)
    have hSlo := findS_lo st
    have hbd : Below w5.heap.size w5 w5.drew := (Below.refl _ _).drew
    have HPl5 := Lib.hid (hF5 ▸ place2_any (HR5.out.below hbd) (by omega) (findG st) hGl)
    have HHf5 := Lib.hid (hF5 ▸ half_any (HR5.out.below hbd) (by omega))
    have HOp := Lib.hid (hF5 ▸ open_any (HR5.out.below hbd) (plcN (findS st) (findG st)) (halfN (findS st)) (findG st) (by omega) (by omega) hGl (HR5.out.below hbd).base_le (by omega))
    rw [p1] at HPl5
    rw [p2] at HHf5
    rw [p1, p2] at HOp
    have hON : JSt.new (plcN st (findG st)) (halfN st) (findG st) = openN st := rfl
    rw [hON, ← hQ] at HOp
    obtain ⟨⟨st6, e6⟩, hq6⟩ : ∃ q, openQ st = q := ⟨_, rfl⟩
    rw [hq6] at HOp
    have HQ6 := Lib.hid hq6
    have HC4 := Lib.hid (show w5.drew.cell? ⟨pb, 0, none⟩ = some (.pointer (some ⟨kb, 0, none⟩)) from c4)
    have k4 := HC4.out
    have HC5 := Lib.hid (show w5.drew.cell? ⟨kb, 2, none⟩ = some (.int .u32 (findG st)) from d2)
    have k5 : w5.drew.cell? ⟨kb, 2, none⟩ = some (.int .u32 (findG st)) := d2
    clear hq6 hQ hON
    generalize plcN st (findG st) = pa at *
    generalize halfN st = pz at *
    by_cases h6 : e6 = 0
    · subst h6
      simp only at HOp
      have HO2 := Lib.hid (HOp.out.mono (R' := fun e w6 => ∃ F6 J, e = .returned (.tuple #[.pointer (some ⟨J.b, 0, none⟩), .int .i64 0]) ∧ Hid (JRaw base w6 F6 st6 J (openJs st)) ∧ F6.b = F5.b ∧ Hid (∀ k, jfoot F6 J k → foot F5 k ∨ w5.heap.size ≤ k) ∧ Hid (Kept (foot F5) w5 w6) ∧ w6.cell? ⟨pb, 0, none⟩ = some (.pointer (some ⟨kb, 0, none⟩)) ∧ w6.cell? ⟨kb, 2, none⟩ = some (.int .u32 (findG st))) (fun e w6 hp => by
        unfold MadePost at hp
        rw [if_pos rfl] at hp
        obtain ⟨F6, J, g1, g2, g3, g4, g5⟩ := hp
        have hk := (Kept.of_below hbd (fun _ => False)).trans g5 (Z := foot F5) (fun _ _ h => h.elim) (fun _ _ h => h)
        exact ⟨F6, J, g1, Lib.hid g2, g3, Lib.hid g4, Lib.hid hk, (hk.cell (p := ⟨pb, 0, none⟩) (by simp; omega) (HNF.out pb (by omega) (by omega))).trans c4, (hk.cell (p := ⟨kb, 2, none⟩) (by simp; omega) (HNF.out kb (by omega) (by omega))).trans d2⟩))
      clear HOp p1 p2
      go_wp2_with fail
      go_region_held3 (fun wx => wx.cell? ⟨pb, 0, none⟩ = some (.pointer (some ⟨kb, 0, none⟩)) ∧ wx.cell? ⟨kb, 2, none⟩ = some (.int .u32 (findG st)))
        (first | exact ⟨HC4.out, HC5.out⟩ | exact ⟨m4, m5⟩ | assumption)
        (first
          | (go_at_call 22; refine HPl5.out.mono ?_; rintro e w7 ⟨rfl, rfl⟩)
          | (go_at_call 23; refine HHf5.out.mono ?_; rintro e w7 ⟨rfl, rfl⟩)
          | (go_at_call 39; refine HO2.out.mono ?_; rintro e w7 ⟨F6, J, rfl, HJ6, hF6, HF6, HK6, m4, m5⟩))
      clear HPl5 HHf5 HO2 HC4 HC5 k4 k5
      have hz6 := HK6.out.size
      have hMap7 := SMap.old HMap'.out HK6.out (HNF.out mb (by omega) (by omega))
      have hPre7 := HP5.out.kept HK6.out (HNF.out kb (by omega) (by omega))
      have HB27 := Lib.hid ((HK6.out.block w.heap.size (by omega) (HNF.out _ (by omega) (by omega))).trans HB2'.out)
      have HB37 := Lib.hid ((HK6.out.block (w.heap.size + 1) (by omega) (HNF.out _ (by omega) (by omega))).trans HB3'.out)
      have HPt7 := Lib.hid ((HK6.out.block pb (by omega) (HNF.out _ (by omega) (by omega))).trans HPt'.out)
      obtain ⟨_, _, _, m6, _⟩ := hPre7.cells
      have m7 := hPre7.free 3
      obtain ⟨W8, hW8⟩ : ∃ x, w7.setCell ⟨kb, 3, none⟩ (.pointer (some ⟨J.b, 0, none⟩)) = x := ⟨_, rfl⟩
      have hK8 : Kept (fun k => k = kb) w7 W8 := by rw [← hW8]; exact Kept.setCell (X := fun k => k = kb) w7 (p := ⟨kb, 3, none⟩) rfl _
      have hNJ : ∀ k, w.heap.size ≤ k → k < W4.heap.size → ¬ jfoot F6 J k := fun k h1 h2 hf => by
        rcases HF6.out k hf with h | h
        · exact HNF.out k h1 h2 h
        · omega
      have hblk : W8.heap[kb]? = some (Obj.cells (keCells F6.b J.b ⟨kb, mb⟩ { kv := [], gen := findG st, dead := false, cnt := 0 }) 68 (0, 0)) := by
        have hp7 : w7.heap[kb]? = some (Obj.cells #[.pointer (some ⟨F.b, 0, none⟩), .map (some mb), .int .u32 (findG st), .pointer none, .bool false] 68 (0, 0)) := hPre7
        rw [← hW8, hF6, hF5]
        simp [World.setCell, Array.getElem?_modify, hp7, keCells]
      have HKR : Hid (KRaw base W8 F6 st6 J (openJs st) ⟨kb, mb⟩ { kv := [], gen := findG st, dead := false, cnt := 0 }) := Lib.hid {
        jr := HJ6.out.kept hK8 (fun k hk e => by subst e; exact hNJ k (by omega) (by omega) hk)
        blk := hblk
        map := SMap.old hMap7 hK8 (show ¬ mb = kb by omega)
        rise := List.Pairwise.nil
        sz := fun p hp => by cases hp
        kl := Nat.le_refl _
        cn := by simp
        gn := hGl
        bb := by show base ≤ kb; omega
        mm := by show base ≤ mb; omega
        ne := by show kb ≠ mb; omega
        n1 := hNJ kb (by omega) (by omega)
        n2 := hNJ mb (by omega) (by omega) }
      have HRec := Lib.hid (callsIn_wide.1 (recs_in 2 (Nat.le_refl _) HKR.out.jr))
      clear hMap7 hPre7
      have HW8 := Lib.hid hW8
      have HK8 := Lib.hid hK8
      clear hW8 hK8
      go_wp2_with fail
      rw [HW8.out]
      refine HRec.out.mono ?_
      rintro e w8 ⟨ao, cap, elv, rfl, rfl⟩
      have HO8 := Lib.hid (show Lift.Own _ _ _ _ _ _ _ from elv ▸ HKR.out.jr.own)
      obtain ⟨W0, hW0⟩ : ∃ x, W8.alloc (.cells #[.slice ao (openJs st).recs.length cap] 91) = x := ⟨_, rfl⟩
      have hb0 : Below W8.heap.size W8 W0 := by rw [← hW0]; exact (Below.refl _ _).alloc (Nat.le_refl _) _
      have hz8 := HK8.out.size
      have hz0 : W8.heap.size < W0.heap.size := by rw [← hW0]; simp
      have d4' : W0.cell? ⟨W8.heap.size, 0, none⟩ = some (.slice ao (openJs st).recs.length cap) := by rw [← hW0]; simp [go_sem]
      have HD4 := Lib.hid d4'
      have hl1 := HO8.out.here
      have hin8 := HKR.out.jr.inb
      have hlW : SlAt Rd.str (fun b => ¬ (b = mb ∨ W0.heap.size ≤ b)) W0 ao (openJs st).recs := by
        have h' : SlAt Rd.str (fun b => ¬ (b = mb ∨ W8.heap.size ≤ b)) W8 ao (openJs st).recs := by
          rcases hl1 with h | ⟨q, o, rfl, hq, hlt', hc⟩
          · exact .inl h
          · refine .inr ⟨q, o, rfl, ?_, hlt', fun k c hk => ?_⟩
            · rintro (e | e)
              · exact hNJ mb (by omega) (by omega) (e ▸ .inr (.inr (by rw [elv]; rfl)))
              · omega
            · obtain ⟨cs, h1, h2⟩ := hc k c hk
              exact ⟨cs, str_flat _ _ _ _ _ _ h1, h2⟩
        exact (h'.kept (Kept.of_below hb0 (fun _ => False)) (fun _ _ _ h => h)).mono (fun b hb hlt' => fun h => by
          rcases h with h | h
          · exact hb (.inl h)
          · omega)
      have HlW := Lib.hid hlW
      have HKR0 := Lib.hid (HKR.out.below hb0)
      have hin0 : ∀ k, kfoot F6 J ⟨kb, mb⟩ k → k < W8.heap.size := HKR.out.inb
      have hrecs := Lib.hid (hls (by rw [HQ6.out]))
      have hlen : (openJs st).recs.length ≤ 100000 := by have := HKR.out.jr.bd; omega
      have HKW0 := Lib.hid (HK8.out.step hb0)
      have HB20 := Lib.hid ((HKW0.out.block w.heap.size (by omega) (by omega)).trans HB27.out)
      have HB30 := Lib.hid ((HKW0.out.block (w.heap.size + 1) (by omega) (by omega)).trans HB37.out)
      have HPt0 := Lib.hid ((HKW0.out.block pb (by omega) (by omega)).trans HPt7.out)
      have HRt := Lib.hid hrt
      have HSum := Lib.hid hsum
      rw [hW0]
      clear HRec hblk HW8 hW0 d4' hl1 hlW hls hrt hsum
      go_wp2_with fail
      refine wpIn_wide (n := 5).1 ?_
      refine range_good (F := Fence.wide) rfl (by omega) (gf := 96) (lb := #[.pointer (some ⟨W8.heap.size, 0, none⟩)]) rfl trivial (enters_of Tryz.func96 (by kernel_rfl) rfl) (encs := encS) (fun _ => rfl)
        (fun J' => ∀ pre W, J' pre W → Kept (fun b => b = mb ∨ W0.heap.size ≤ b) W0 W) (fun pre x => pre ++ [x] <+: (openJs st).recs) (fun xs _ => xs = (openJs st).recs) (fun _ _ _ _ h _ _ => h)
        (fun l J' W hg hY h0 => vals1_good 4 (by omega) l W8.heap.size (fun b => b = mb ∨ W0.heap.size ≤ b) ao cap (openJs st).recs hlen W0 J' hg W hY HD4.out (by omega) (by omega) HlW.out h0)
        (fun pre W => Kept (fun b => b = mb ∨ W0.heap.size ≤ b) W0 W ∧ KRaw base W F6 st6 J (openJs st) ⟨kb, mb⟩ (ksAt st ls pre.length)) ?own
        ⟨Kept.refl _ _, by rw [List.length_nil, ksAt_zero]; exact HKR0.out⟩
        (fun l D rl rd hl hD h1 h2 => fun pre W h => h.1.1)
        (fun x a' _ => a' = { tmps := #[Value.pointer (some { block := F.b, off := 0 }), undef, Value.pointer (some { block := w.heap.size, off := 0 }), Value.pointer (some { block := w.heap.size + 1, off := 0 }), Value.pointer (some { block := pb, off := 0 }), Value.int IntKind.i64 0, Value.pointer (some { block := J.b, off := 0 }), Value.int IntKind.i64 0, Value.string x, undef, undef, Value.pointer (some { block := F.b, off := 0 }), Value.bool false, Value.bool false, Value.pointer (some { block := F.b, off := 0 }), Value.int IntKind.i64 ↑(List.length st.no), Value.bool (decide (((st.no.length : Nat) : Int) < 10)), Value.bool (decide (((st.no.length : Nat) : Int) < 10)), Value.pointer (some { block := F.b, off := 0 }), Value.map (some mb), Value.agg #[Value.pointer (some { block := F.b, off := 0 }), Value.map (some mb), Value.int IntKind.u32 0, Value.pointer none, Value.bool false], Value.pointer (some { block := kb, off := 0 }), Value.pointer (some { block := kb, off := 0 }), Value.int IntKind.i64 0, Value.int IntKind.i64 0, Value.bool false, undef, Value.tuple #[Value.pointer (some { block := J.b, off := 0 }), Value.int IntKind.i64 0], Value.pointer (some { block := F.b, off := 0 }), Value.pointer (some { block := F.b, off := 0 }), Value.pointer (some { block := kb, off := 0 }), Value.pointer (some { block := kb, off := 0 }), Value.pointer (some { block := kb, off := 2 }), Value.int IntKind.u32 ↑(findG st), Value.int IntKind.i64 ↑pa, Value.pointer (some { block := F.b, off := 0 }), Value.int IntKind.i64 ↑pz, Value.pointer (some { block := kb, off := 0 }), Value.pointer (some { block := kb, off := 0 }), Value.pointer (some { block := kb, off := 2 }), Value.int IntKind.u32 ↑(findG st), Value.tuple #[Value.pointer (some { block := J.b, off := 0 }), Value.int IntKind.i64 0], Value.pointer (some { block := J.b, off := 0 }), Value.int IntKind.i64 0, Value.int IntKind.i64 0, Value.bool false, undef, Value.pointer (some { block := kb, off := 0 }), Value.pointer (some { block := J.b, off := 0 }), Value.pointer (some { block := kb, off := 0 }), Value.pointer (some { block := kb, off := 3 }), Value.pointer (some { block := J.b, off := 0 }), Value.func (Fn.func 96) #[] #[Value.pointer (some { block := W8.heap.size, off := 0 })], Value.string x, undef, undef, undef, undef, undef, undef, undef, undef, undef, undef, undef], defers := [] }) (fun x a' => fun _ _ _ _ h _ _ => h) ?assign ?body ?done
      case own =>
        rintro pre W W' row ⟨hk, hK⟩ hg hr
        refine ⟨kept_t hk ((Kept.of_grown hg).wide (fun k _ e => .inr ((hr k e.symm).1))), hK.kept (Kept.of_grown hg) (fun k hf e => ?_)⟩
        have h1 := (hr k e.symm).1
        have h2 := hin0 k hf
        omega
      case assign =>
        rintro lp pre x W K ⟨hk, hK⟩ hok hKK
        simp only [encS]
        gi_wp2
        exact hKK _ _ (KeepsFrom.refl _ _) ⟨hk, hK⟩ rfl
      case body =>
        rintro lp pre x a' W hlp ⟨hk, hK⟩ hpre rfl
        have hWz := hk.size
        have hpl : pre.length + 1 ≤ ls.length := by
          have := hpre.length_le
          rw [hrecs.out] at this
          simpa using this
        obtain ⟨l0, hl0⟩ := some_at (show pre.length < ls.length by omega)
        have hx : x = recB l0 := by
          obtain ⟨t, ht⟩ := hpre
          have h1 : (openJs st).recs[pre.length]? = some x := by rw [← ht]; simp
          rw [hrecs.out, List.getElem?_map, hl0] at h1
          simpa using h1.symm
        subst hx
        obtain ⟨r1, r2, r3⟩ := HRt.out l0 (List.mem_of_getElem? hl0)
        have HWr := Lib.hid (writes_rec l0 r1 (by omega) r3 W)
        have HT := Lib.hid (ksAt_succ st hl0)
        have HPtW := Lib.hid ((hk.block pb (by omega) (by omega)).trans HPt0.out)
        have hcnt : (ksAt st ls pre.length).cnt + l0.length ≤ 1000000 := by
          have h1 : (ksAt st ls (pre.length + 1)).cnt ≤ ls.flatten.length := by
            have := congrArg List.length (show (ls.take (pre.length + 1)).flatten ++ (ls.drop (pre.length + 1)).flatten = ls.flatten by rw [← List.flatten_append, List.take_append_drop])
            rw [List.length_append] at this
            show (ls.take (pre.length + 1)).flatten.length ≤ _
            omega
          rw [HT.out] at h1
          have := HSum.out
          unfold KSt.doing at h1
          simp only at h1
          omega
        have HKW := Lib.hid hK
        have HKp := Lib.hid hk
        have HSZ := Lib.hid (right_sz r1)
        clear hK hk hpre hl0 r1 r3
        gi_wp2
        refine ⟨trivial, (CallsIn.inRound lp (callsIn_wide.2 HWr.out)).mono ?_⟩
        rintro e W2 ⟨v, rfl, hO, hbW⟩
        obtain ⟨ao2, cap2, rfl⟩ := hO.form
        have HKW2 := Lib.hid (HKW.out.below hbW)
        have c4W := (show W2.cell? ⟨pb, 0, none⟩ = some (.pointer (some ⟨kb, 0, none⟩)) by
          rw [Lib.cell_of_heap ((hbW.block pb (by omega)).trans HPtW.out)]; rfl)
        have hlt2 := hO.lt
        have hO2 : SlAt rKw (fun b => b ≠ mb) W2 ao2 l0 := by
          rcases hO.here with h | ⟨q, o, rfl, hq, hlt', hc⟩
          · exact .inl h
          · refine .inr ⟨q, o, rfl, ?_, hlt', fun k c hk => ?_⟩
            · have := (hlt2 q rfl).1
              intro e; omega
            · obtain ⟨cs, h1, h2⟩ := hc k c hk
              exact ⟨cs, kw_flat _ _ _ _ _ _ h1, h2⟩
        have HDo := Lib.hid (do_any0 HKW2.out ao2 cap2 l0 hO2 r2 HSZ.out hcnt)
        have HbW := Lib.hid hbW
        have hW2z := hbW.size
        clear hO hO2 hlt2 hbW
        gi_wp2
        refine ⟨trivial, (CallsIn.inRound lp (callsIn_wide.2 HDo.out)).mono ?_⟩
        rintro e W3 ⟨rfl, hK3, hk3⟩
        gi_wp2
        refine ⟨⟨by have := hk3.size; omega, fun k o hk ho hc => ?_⟩, (HKp.out.step HbW.out).trans hk3 (fun _ _ h => h) (fun _ _ e => .inl e), ?_⟩
        · have h1 := (HbW.out.block k (Array.getElem?_eq_some_iff.1 ho).1).trans ho
          exact (hk3.block k (Array.getElem?_eq_some_iff.1 h1).1 (by show ¬ k = mb; omega)).trans h1
        · rw [HT.out]; exact hK3
      case done =>
        rintro D xs W hD hxs ⟨hk, hK⟩ hDf
        subst hxs
        have hWz := hk.size
        have hll : (openJs st).recs.length = ls.length := by rw [hrecs.out, List.length_map]
        rw [hll, ksAt_all] at hK
        have HB2W := (hk.block w.heap.size (by omega) (by omega)).trans HB20.out
        have HB3W := (hk.block (w.heap.size + 1) (by omega) (by omega)).trans HB30.out
        have HPtW := (hk.block pb (by omega) (by omega)).trans HPt0.out
        have c2 : W.cell? ⟨w.heap.size, 0, none⟩ = some (.pointer none) := by rw [Lib.cell_of_heap HB2W]; rfl
        have c3 : W.cell? ⟨w.heap.size + 1, 0, none⟩ = some (.int .i64 0) := by rw [Lib.cell_of_heap HB3W]; rfl
        have f2 : W.frozen? ⟨w.heap.size, 0, none⟩ = false := Lib.frozen_of_heap HB2W 0
        have f3 : W.frozen? ⟨w.heap.size + 1, 0, none⟩ = false := Lib.frozen_of_heap HB3W 0
        have c4 : W.cell? ⟨pb, 0, none⟩ = some (.pointer (some ⟨kb, 0, none⟩)) := by rw [Lib.cell_of_heap HPtW]; rfl
        have HKf := Lib.hid hK
        have Hk := Lib.hid hk
        have HDf := Lib.hid hDf
        have HIn0 := Lib.hid hin0
        have HNJ := Lib.hid hNJ
        clear HB2W HB3W HPtW hK hk hDf hin0
        go_wp2_with fail
        obtain ⟨WF, hWF⟩ : ∃ x, (W.setCell ⟨w.heap.size, 0, none⟩ (.pointer (some ⟨kb, 0, none⟩))).setCell ⟨w.heap.size + 1, 0, none⟩ (.int .i64 0) = x := ⟨_, rfl⟩
        have hkF : Kept (fun k => k = w.heap.size ∨ k = w.heap.size + 1) W WF := by rw [← hWF]; exact ((Kept.refl _ W).set (p := ⟨w.heap.size, 0, none⟩) (.inl rfl)).set (p := ⟨w.heap.size + 1, 0, none⟩) (.inr rfl)
        have g2 : WF.cell? ⟨w.heap.size, 0, none⟩ = some (.pointer (some ⟨kb, 0, none⟩)) := by rw [← hWF, World.cell?_setCell_other _ _ _ _ (by simp)]; exact World.cell?_setCell_same _ _ _ (by first | (rw [c2]; done) | (rw [c2]; rfl))
        have g3 : WF.cell? ⟨w.heap.size + 1, 0, none⟩ = some (.int .i64 0) := by rw [← hWF]; exact World.cell?_setCell_same _ _ _ (by first | (rw [World.cell?_setCell_other _ _ _ _ (by simp), c3]; done) | (rw [World.cell?_setCell_other _ _ _ _ (by simp), c3]; rfl))
        rw [hWF]
        clear hWF
        have hDF : WF.heap[D]? = some (.deferred (some [])) := (hkF.block D (Array.getElem?_eq_some_iff.1 HDf.out).1 (by omega)).trans HDf.out
        have hkD : Kept (fun k => k = w.heap.size ∨ k = w.heap.size + 1 ∨ k = D) W (WF.putObj D (.deferred none)) :=
          (hkF.wide (fun k _ h => h.imp id .inl)).trans (Kept.of_grown (grownBy_putObj' WF D (.deferred none))) (fun _ _ h => h) (fun k _ e => .inr (.inr (by cases e; rfl)))
        have hwz := HB.out.size
        have hAll : Kept (foot F) w (WF.putObj D (.deferred none)) :=
          ((((((Kept.of_below HB.out (fun _ => False)).trans HK5.out (Z := foot F) (fun _ _ h => h.elim) (fun k hk h => h.elim id (fun e => by omega))).trans HK6.out (Z := foot F) (fun _ _ h => h) (fun k hk h => (HF5.out k h).elim id (fun h => by omega))).trans HKW0.out (Z := foot F) (fun _ _ h => h) (fun k hk h => by omega)).trans Hk.out (Z := foot F) (fun _ _ h => h) (fun k hk h => by omega)).trans hkD (Z := foot F) (fun _ _ h => h) (fun k hk h => by omega))
        have hKR := HKf.out.kept hkD (fun k hk h => by
          have h1 := HIn0.out k hk
          rcases h with rfl | rfl | rfl
          · rcases hk with hk | hk | hk
            · exact HNJ.out _ (by omega) (by omega) hk
            · simp only at hk; omega
            · simp only at hk; omega
          · rcases hk with hk | hk | hk
            · exact HNJ.out _ (by omega) (by omega) hk
            · simp only at hk; omega
            · simp only at hk; omega
          · omega)
        refine ⟨by simp, .inl ⟨_, _, rfl, run_takeDeferred hDF, ?_⟩⟩
        have r2 : (WF.putObj D (.deferred none)).cell? ⟨w.heap.size, 0, none⟩ = some (.pointer (some ⟨kb, 0, none⟩)) := ((Kept.of_grown (grownBy_putObj' WF D (.deferred none))).cell (p := ⟨w.heap.size, 0, none⟩) (by have := hkF.size; first | omega | (simp; done) | (simp; omega)) (by first | (simp; done) | (simp; omega) | (intro e; cases e; omega))).trans g2
        have r3 : (WF.putObj D (.deferred none)).cell? ⟨w.heap.size + 1, 0, none⟩ = some (.int .i64 0) := ((Kept.of_grown (grownBy_putObj' WF D (.deferred none))).cell (p := ⟨w.heap.size + 1, 0, none⟩) (by have := hkF.size; first | omega | (simp; done) | (simp; omega)) (by first | (simp; done) | (simp; omega) | (intro e; cases e; omega))).trans g3
        refine ⟨.tuple #[.pointer (some ⟨kb, 0, none⟩), .int .i64 0], by simp [results, Tryz.f17, go_sem, r2, r3], ?_⟩
        unfold KMade
        rw [HQ6.out, if_pos rfl]
        refine ⟨F6, J, ⟨kb, mb⟩, rfl, hKR, hF6.trans hF5, fun k hk => ?_, hAll⟩
        rcases hk with hk | hk | hk
        · rcases HF6.out k hk with h | h
          · exact (HF5.out k h).imp id (fun h => by omega)
          · exact .inr (by omega)
        · simp only at hk; exact .inr (by omega)
        · simp only at hk; exact .inr (by omega)
    · have hx6 : (e6 == 0) = false := by simpa using h6
      simp only at HOp
      have HO2 := Lib.hid (HOp.out.mono (R' := fun e w6 => e = .returned (.tuple #[.pointer none, .int .i64 e6]) ∧ Hid (PlS base F5 st6 w5 w6) ∧ w6.cell? ⟨pb, 0, none⟩ = some (.pointer (some ⟨kb, 0, none⟩)) ∧ w6.cell? ⟨kb, 2, none⟩ = some (.int .u32 (findG st))) (fun e w6 hp => by
        unfold MadePost at hp
        rw [if_neg h6] at hp
        obtain ⟨g1, g2⟩ := hp
        have g3 := g2.back hbd
        have hk : Kept (foot F5) w5 w6 := by obtain ⟨_, _, _, _, h⟩ := g3; exact h
        exact ⟨g1, Lib.hid g3, (hk.cell (p := ⟨pb, 0, none⟩) (by simp; omega) (HNF.out pb (by omega) (by omega))).trans c4, (hk.cell (p := ⟨kb, 2, none⟩) (by simp; omega) (HNF.out kb (by omega) (by omega))).trans d2⟩))
      clear HOp p1 p2
      go_wp2_with fail
      go_region_held3 (fun wx => wx.cell? ⟨pb, 0, none⟩ = some (.pointer (some ⟨kb, 0, none⟩)) ∧ wx.cell? ⟨kb, 2, none⟩ = some (.int .u32 (findG st)))
        (first | exact ⟨HC4.out, HC5.out⟩ | exact ⟨m4, m5⟩ | assumption)
        (first
          | (go_at_call 22; refine HPl5.out.mono ?_; rintro e w7 ⟨rfl, rfl⟩)
          | (go_at_call 23; refine HHf5.out.mono ?_; rintro e w7 ⟨rfl, rfl⟩)
          | (go_at_call 39; refine HO2.out.mono ?_; rintro e w7 ⟨rfl, HS7, m4, m5⟩))
      clear HPl5 HHf5 HO2 HC4 HC5 k4 k5
      obtain ⟨F7, hR7, hF7, hf7, hk7⟩ := HS7.out
      have hz7 := hk7.size
      have HB27 := ((hk7.block w.heap.size (by omega) (HNF.out _ (by omega) (by omega))).trans HB2'.out)
      have HB37 := ((hk7.block (w.heap.size + 1) (by omega) (HNF.out _ (by omega) (by omega))).trans HB3'.out)
      have n2 : w7.cell? ⟨w.heap.size, 0, none⟩ = some (.pointer none) := by rw [Lib.cell_of_heap HB27]; rfl
      have n3 : w7.cell? ⟨w.heap.size + 1, 0, none⟩ = some (.int .i64 0) := by rw [Lib.cell_of_heap HB37]; rfl
      have nf2 : w7.frozen? ⟨w.heap.size, 0, none⟩ = false := Lib.frozen_of_heap HB27 0
      have nf3 : w7.frozen? ⟨w.heap.size + 1, 0, none⟩ = false := Lib.frozen_of_heap HB37 0
      have HR7 := Lib.hid hR7
      have HK7 := Lib.hid hk7
      have Hf7 := Lib.hid hf7
      clear HB27 HB37 hR7 hk7 hf7
      go_wp2_with fail
      refine ⟨.tuple #[.pointer none, .int .i64 e6], by simp [results, Tryz.f17, go_sem, n2, n3], ?_⟩
      unfold KMade
      rw [HQ6.out, if_neg h6]
      have hkF : Kept (fun k => k = w.heap.size ∨ k = w.heap.size + 1) w7 ((w7.setCell ⟨w.heap.size, 0, none⟩ (.pointer none)).setCell ⟨w.heap.size + 1, 0, none⟩ (.int .i64 e6)) := ((Kept.refl _ w7).set (p := ⟨w.heap.size, 0, none⟩) (.inl rfl)).set (p := ⟨w.heap.size + 1, 0, none⟩) (.inr rfl)
      have hwz := HB.out.size
      refine ⟨rfl, F7, HR7.out.kept hkF (fun k hk h => ?_), hF7.trans hF5, fun k hk => ?_, ((((Kept.of_below HB.out (fun _ => False)).trans HK5.out (Z := foot F) (fun _ _ h => h.elim) (fun k hk h => h.elim id (fun e => by omega))).trans HK7.out (Z := foot F) (fun _ _ h => h) (fun k hk h => (HF5.out k h).elim id (fun h => by omega))).trans hkF (Z := foot F) (fun _ _ h => h) (fun k hk h => by omega))⟩
      · rcases Hf7.out k hk with h1 | h1
        · exact HNF.out k (by omega) (by omega) h1
        · omega
      · rcases Hf7.out k hk with h1 | h1
        · exact (HF5.out k h1).imp id (fun h => by omega)
        · exact .inr (by omega)
  · have hQ : openQ st = (findS st, findE st) := by unfold openQ; rw [if_neg he]
    have he2 : (findE st == 0) = false := by simpa using he
    have HQ := Lib.hid hQ
    clear hQ
    go_wp2_with fail
    refine ⟨.tuple #[.pointer none, .int .i64 (findE st)], by simp [results, Tryz.f17, go_sem, c2, c3], ?_⟩
    unfold KMade
    rw [HQ.out, if_neg he]
    exact ⟨rfl, HPl.out _ (((Kept.refl _ w5).set (p := ⟨w.heap.size, 0, none⟩) (.inl rfl)).set (p := ⟨w.heap.size + 1, 0, none⟩) (.inr rfl))⟩
end Go.Proofs.YtdebfnlnpfienaaGreatDoor
