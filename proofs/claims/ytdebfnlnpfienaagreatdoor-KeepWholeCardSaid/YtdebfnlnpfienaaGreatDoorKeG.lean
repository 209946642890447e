/- The generation that a root's sector says. -/
import Derived.Test.YtdebfnlnpfienaaGreatDoorKeF
namespace Go.Proofs.YtdebfnlnpfienaaGreatDoor
open Go.RowKit Lift
set_option linter.unusedSimpArgs false
set_option linter.unusedVariables false

def gen4 (l : List UInt8) : Nat := (l.getD 1 0).toNat + (l.getD 2 0).toNat * 256 + (l.getD 3 0).toNat * 65536 + (l.getD 4 0).toNat * 16777216
theorem gen4_lt (l : List UInt8) : gen4 l < 4294967296 := by
  unfold gen4
  have h1 := (l.getD 1 0).toNat_lt; have h2 := (l.getD 2 0).toNat_lt; have h3 := (l.getD 3 0).toNat_lt; have h4 := (l.getD 4 0).toNat_lt
  omega
def saysK (d : List UInt8) (a : Nat) : Bool := decide ((⟨d.toArray⟩ : ByteArray) = rootB (gen4 d)) && decide (gen4 d % 2 = a)
theorem rem_u32 (g a : Nat) (hg : g < 4294967296) (ha : a < 2) : decide (IntKind.i64.wrap ((g : Int).tmod 2) = (a : Int)) = decide (g % 2 = a) := by
  rw [Int.tmod_eq_emod_of_nonneg (by omega), IntWalk.i64_in _ (by omega), decide_eq_decide]
  omega
theorem or_u32 (a b : Nat) (ha : a < 4294967296) (hb : b < 4294967296) : bits .or .u32 (a : Int) (b : Int) = ((a ||| b : Nat) : Int) := by
  have hab : a ||| b < 2 ^ 32 := Nat.or_lt_two_pow (by omega) (by omega)
  have e : ∀ a : Nat, BitVec.ofInt 32 (a : Int) = BitVec.ofNat 32 a := fun a => BitVec.ofInt_natCast 32 a
  simp only [bits]
  rw [show IntKind.u32.bits = 32 from rfl, e, e, ← BitVec.ofNat_or, BitVec.toNat_ofNat, Nat.mod_eq_of_lt (by omega), IntKind.wrap_u32]
  omega
theorem orr4 (x y z u : UInt8) : bits .or .u32 (bits .or .u32 (bits .or .u32 (bits .or .u32 0 ((x.toNat : Int) % 4294967296)) ((y.toNat : Int) % 4294967296 * 256 % 4294967296)) ((z.toNat : Int) % 4294967296 * 65536 % 4294967296)) ((u.toNat : Int) % 4294967296 * 16777216 % 4294967296) = ((x.toNat + y.toNat * 256 + z.toNat * 65536 + u.toNat * 16777216 : Nat) : Int) := by
  have h1 := x.toNat_lt; have h2 := y.toNat_lt; have h3 := z.toNat_lt; have h4 := u.toNat_lt
  rw [show ((x.toNat : Int) % 4294967296) = ((x.toNat : Nat) : Int) by omega, show ((y.toNat : Int) % 4294967296 * 256 % 4294967296) = ((y.toNat * 256 : Nat) : Int) by omega, show ((z.toNat : Int) % 4294967296 * 65536 % 4294967296) = ((z.toNat * 65536 : Nat) : Int) by omega, show ((u.toNat : Int) % 4294967296 * 16777216 % 4294967296) = ((u.toNat * 16777216 : Nat) : Int) by omega]
  have e1 := or_add x.toNat y.toNat 8 (by omega)
  have e2 := or_add (x.toNat + y.toNat * 256) z.toNat 16 (by omega)
  have e3 := or_add (x.toNat + y.toNat * 256 + z.toNat * 65536) u.toNat 24 (by omega)
  simp only [Nat.reducePow] at e1 e2 e3
  rw [show (0 : Int) = ((0 : Nat) : Int) from rfl, or_u32 _ _ (by omega) (by omega), Nat.zero_or, or_u32 _ _ (by omega) (by omega), e1, or_u32 _ _ (by omega) (by omega), e2, or_u32 _ _ (by omega) (by omega), e3]
set_option maxHeartbeats 2000000 in
set_option maxRecDepth 100000 in
theorem says_any (d : List UInt8) (hd : d.length = 64) (a : Nat) (ha : a < 2) (w : World) : Calls Tryz.prog 64 #[.string ⟨d.toArray⟩, .int .i64 a] w (BelowPost (.tuple #[.int .u32 (gen4 d), .bool (saysK d a)]) w) := by
  obtain ⟨x0, x1, x2, x3, x4, r, rfl⟩ : ∃ x0 x1 x2 x3 x4 r, d = x0 :: x1 :: x2 :: x3 :: x4 :: r := by
    match d, hd with
    | x0 :: x1 :: x2 :: x3 :: x4 :: r, _ => exact ⟨_, _, _, _, _, _, rfl⟩
  have HR := Lib.hid (root_any _ (gen4_lt (x0 :: x1 :: x2 :: x3 :: x4 :: r)) w)
  have hr : r.length = 59 := by simpa using hd
  clear hd
  have hs : (⟨(x0 :: x1 :: x2 :: x3 :: x4 :: r).toArray⟩ : ByteArray).size = 64 := by show (x0 :: x1 :: x2 :: x3 :: x4 :: r).toArray.size = 64; simp [hr]
  go_enter Tryz.func64, Tryz.ntmps64
  go_wp2_with fail
  refine wp_loop_rounds 5 ?_
  iterate 5
    rw [rounds_succ]
    go_wp2_with fail
  have e1 : ∀ h, (⟨(x0 :: x1 :: x2 :: x3 :: x4 :: r).toArray⟩ : ByteArray)[1]'h = x1 := fun _ => rfl
  have e2 : ∀ h, (⟨(x0 :: x1 :: x2 :: x3 :: x4 :: r).toArray⟩ : ByteArray)[2]'h = x2 := fun _ => rfl
  have e3 : ∀ h, (⟨(x0 :: x1 :: x2 :: x3 :: x4 :: r).toArray⟩ : ByteArray)[3]'h = x3 := fun _ => rfl
  have e4 : ∀ h, (⟨(x0 :: x1 :: x2 :: x3 :: x4 :: r).toArray⟩ : ByteArray)[4]'h = x4 := fun _ => rfl
  simp only [e1, e2, e3, e4, orr4]
  clear e1 e2 e3 e4
  have hg4 : x1.toNat + x2.toNat * 256 + x3.toNat * 65536 + x4.toNat * 16777216 = gen4 (x0 :: x1 :: x2 :: x3 :: x4 :: r) := rfl
  simp only [hg4]
  have hgl := gen4_lt (x0 :: x1 :: x2 :: x3 :: x4 :: r)
  have HSY : Hid (saysK (x0 :: x1 :: x2 :: x3 :: x4 :: r) a = (decide ((⟨(x0 :: x1 :: x2 :: x3 :: x4 :: r).toArray⟩ : ByteArray) = rootB (gen4 (x0 :: x1 :: x2 :: x3 :: x4 :: r))) && decide (gen4 (x0 :: x1 :: x2 :: x3 :: x4 :: r) % 2 = a))) := Lib.hid rfl
  clear hg4
  generalize gen4 (x0 :: x1 :: x2 :: x3 :: x4 :: r) = g at *
  generalize (⟨(x0 :: x1 :: x2 :: x3 :: x4 :: r).toArray⟩ : ByteArray) = s at *
  have HRM := Lib.hid (rem_u32 g a hgl ha)
  refine HR.out.mono ?_
  rintro e w1 ⟨rfl, hb⟩
  by_cases hs2 : s = rootB g
  · have HS3 := Lib.hid (show saysK (x0 :: x1 :: x2 :: x3 :: x4 :: r) a = decide (g % 2 = a) by rw [HSY.out, decide_eq_true hs2, Bool.true_and])
    have hmd : ((g : Int) % 2 == (a : Int)) = decide (g % 2 = a) := by rw [Bool.eq_iff_iff, beq_iff_eq, decide_eq_true_eq]; omega
    clear HRM
    go_wp2_with fail
    go_ret2
    exact ⟨by rw [HS3.out]; rfl, hb⟩
  · have HS3 := Lib.hid (show saysK (x0 :: x1 :: x2 :: x3 :: x4 :: r) a = false by rw [HSY.out, decide_eq_false hs2, Bool.false_and])
    have hs3 : ¬ s.toList = (rootB g).toList := fun e => hs2 (by
      rw [Go.ByteArray.toList_eq, Go.ByteArray.toList_eq] at e
      exact ByteArray.ext (Array.toList_inj.1 e))
    go_wp2_with fail
    go_ret2
    exact ⟨by rw [HS3.out]; rfl, hb⟩
end Go.Proofs.YtdebfnlnpfienaaGreatDoor

/- The root that counts. -/
namespace Go.Proofs.YtdebfnlnpfienaaGreatDoor
open Go.RowKit Lift
set_option linter.unusedSimpArgs false
set_option linter.unusedVariables false

/-- A keep that has no journal yet. -/
def PreK (w : World) (b mb fb g : Nat) : Prop := w.heap[b]? = some (.cells #[.pointer (some ⟨fb, 0, none⟩), .map (some mb), .int .u32 g, .pointer none, .bool false] 68 (0, 0))
section
variable {w w' : World} {b mb fb g : Nat}
theorem PreK.lt (h : PreK w b mb fb g) : b < w.heap.size := (Array.getElem?_eq_some_iff.1 h).1
theorem PreK.kept {X : Nat → Prop} (h : PreK w b mb fb g) (hb : Kept X w w') (hx : ¬ X b) : PreK w' b mb fb g := (hb.block b h.lt hx).trans h
theorem PreK.below (h : PreK w b mb fb g) (hb : Below w.heap.size w w') : PreK w' b mb fb g := (hb.block b h.lt).trans h
theorem PreK.cells (h : PreK w b mb fb g) : w.cell? ⟨b, 0, none⟩ = some (.pointer (some ⟨fb, 0, none⟩)) ∧ w.cell? ⟨b, 1, none⟩ = some (.map (some mb)) ∧ w.cell? ⟨b, 2, none⟩ = some (.int .u32 g) ∧ w.cell? ⟨b, 3, none⟩ = some (.pointer none) ∧ w.cell? ⟨b, 4, none⟩ = some (.bool false) :=
  ⟨by rw [Lib.cell_of_heap h]; rfl, by rw [Lib.cell_of_heap h]; rfl, by rw [Lib.cell_of_heap h]; rfl, by rw [Lib.cell_of_heap h]; rfl, by rw [Lib.cell_of_heap h]; rfl⟩
theorem PreK.free (h : PreK w b mb fb g) (i : Nat) : w.frozen? ⟨b, i, none⟩ = false := Lib.frozen_of_heap h i
theorem PreK.set (h : PreK w b mb fb g) (n : Nat) : PreK (w.setCell ⟨b, 2, none⟩ (.int .u32 n)) b mb fb n := by
  unfold PreK at *
  simp [World.setCell, Array.getElem?_modify, h]
end
def findStep (x : Bool × Nat) (d : List UInt8) (i : Nat) : Bool × Nat := if saysK d i && (!x.1 || decide (x.2 < gen4 d)) then (true, gen4 d) else x
def secN (st : St) (i : Nat) : List UInt8 := st.no.getD i []
def find1 (st : St) : Bool × Nat := findStep (false, 0) (secN st 0) 0
def find2 (st : St) : Bool × Nat := findStep (find1 st) (secN st 1) 1
def findAt (st : St) : Nat → Bool × Nat
  | 0 => (false, 0)
  | 1 => find1 st
  | _ + 2 => find2 st
theorem findAt_succ (st : St) (i : Nat) (hi : i < 2) : findAt st (i + 1) = findStep (findAt st i) (secN st i) i := by
  rcases (by omega : i = 0 ∨ i = 1) with rfl | rfl <;> rfl
theorem findStep_lt {x : Bool × Nat} (h : x.2 < 4294967296) (d : List UInt8) (i : Nat) : (findStep x d i).2 < 4294967296 := by
  unfold findStep; split
  · exact gen4_lt _
  · exact h
theorem findAt_lt (st : St) : ∀ i, (findAt st i).2 < 4294967296
  | 0 => by simp [findAt]
  | 1 => findStep_lt (by simp) _ _
  | _ + 2 => findStep_lt (findStep_lt (by simp) _ _) _ _
def arrC (st : St) (i : Nat) : Array Value := #[.string (if 0 < i then ⟨(secN st 0).toArray⟩ else ⟨#[]⟩), .string (if 1 < i then ⟨(secN st 1).toArray⟩ else ⟨#[]⟩)]
/-- What find leaves. -/
def findS (st : St) : St := if st.off then st else if (find2 st).1 then (if (secN st (1 - (find2 st).2 % 2)).all (· == 0) then st else (runOps st (sureOps emB [1 - (find2 st).2 % 2])).1) else st
def findE (st : St) : Int := if st.off then 12 else if (find2 st).1 then (if (secN st (1 - (find2 st).2 % 2)).all (· == 0) then 0 else (runOps st (sureOps emB [1 - (find2 st).2 % 2])).2) else 10
def findG (st : St) : Nat := if st.off then 0 else (find2 st).2
set_option maxHeartbeats 8000000 in
set_option maxRecDepth 100000 in
theorem find_any {base : Nat} {w : World} {F : Fp} {st : St} (h : Raw base w F st) (hl : 10 ≤ st.no.length) (hlo : st.lo.length ≤ 1000000) {b mb : Nat} (hb : PreK w b mb F.b 0) (hnf : ¬ foot F b) (hbb : base ≤ w.heap.size) :
    Calls Tryz.prog 38 #[.pointer (some ⟨b, 0, none⟩)] w (fun e w' => e = .returned (.int .i64 (findE st)) ∧ ∃ F', Raw base w' F' (findS st) ∧ F'.b = F.b ∧ (∀ k, foot F' k → foot F k ∨ w.heap.size ≤ k) ∧ Kept (fun k => foot F k ∨ k = b) w w' ∧ PreK w' b mb F.b (findG st)) := by
  have hblt := hb.lt
  have hd64 := h.n64
  have hFi := h.inb
  cases ho : st.off with
  | true =>
    have hb0 : Below w.heap.size w (w.alloc (.cells #[.string ⟨#[]⟩, .string ⟨#[]⟩] 109)) := (Below.refl _ w).alloc (Nat.le_refl _) _
    have HG := Lib.hid (getV_off (st := st) 0 ho ▸ get_any (h.below hb0) 0)
    obtain ⟨k0, k1, k2, k3, k4⟩ := (hb.below hb0).cells
    have HE := Lib.hid (show findS st = st ∧ findE st = 12 ∧ findG st = 0 by unfold findS findE findG; rw [ho]; exact ⟨rfl, rfl, rfl⟩)
    have H1 := Lib.hid (h.below hb0)
    have HP1 := Lib.hid (hb.below hb0)
    go_enter Tryz.func38, Tryz.ntmps38
    go_wp2_with fail
    refine wp_loop_rounds 1 ?_
    rw [rounds_succ]
    go_wp2_with fail
    refine HG.out.mono ?_
    rintro e w1 ⟨rfl, rfl⟩
    go_wp2_with fail
    go_ret
    obtain ⟨e1, e2, e3⟩ := HE.out
    rw [e1, e2, e3]
    exact ⟨rfl, F, H1.out, rfl, fun k hk => .inl hk, Kept.alloc _ w _, HP1.out⟩
  | false =>
    have HF2 := Lib.hid (show findS st = (if (find2 st).1 then (if (secN st (1 - (find2 st).2 % 2)).all (· == 0) then st else (runOps st (sureOps emB [1 - (find2 st).2 % 2])).1) else st) ∧ findE st = (if (find2 st).1 then (if (secN st (1 - (find2 st).2 % 2)).all (· == 0) then 0 else (runOps st (sureOps emB [1 - (find2 st).2 % 2])).2) else 10) ∧ findG st = (find2 st).2 by unfold findS findE findG; rw [ho]; exact ⟨rfl, rfl, rfl⟩)
    have HD := Lib.hid (fun i (hi : i < 2) => show (secN st i).length = 64 by
      obtain ⟨d, hd⟩ := some_at (l := st.no) (k := i) (by omega)
      unfold secN; rw [List.getD_eq_getElem?_getD, hd]; exact hd64 d (List.mem_of_getElem? hd))
    have HGt := Lib.hid (fun (i : Nat) (hi : i < 2) => show getV st (i : Int) = .tuple #[.string ⟨(secN st i).toArray⟩, .int .i64 0] from getV_at i ho (by omega))
    have H0 := Lib.hid h
    have HB := Lib.hid hb
    clear h hb hd64
    go_enter Tryz.func38, Tryz.ntmps38
    go_wp2_with fail
    go_loopw [3, 11] (fun vf vi wr => ∃ i : Nat, i ≤ 2 ∧ vi = .int .i64 i ∧ vf = .bool (findAt st i).1 ∧ Hid (Raw base wr F st) ∧ Hid (PreK wr b mb F.b (findAt st i).2) ∧ Hid (wr.heap[w.heap.size]? = some (.cells (arrC st i) 109 (0, 0))) ∧ Hid (Kept (fun k => k = b) w wr)) (fun _ vi _ => 2 - (intOf vi).toNat)
    case atStart => exact ⟨0, by omega, rfl, rfl, Lib.hid (H0.out.below ((Below.refl _ w).alloc (Nat.le_refl _) _)), Lib.hid (HB.out.below ((Below.refl _ w).alloc (Nat.le_refl _) _)), Lib.hid (heap_alloc_new w _), Lib.hid (Kept.alloc _ w _)⟩
    case round =>
      obtain ⟨i, hi2, rfl, rfl, HR, HP, HA, HK⟩ := hrel
      by_cases hi : i < 2
      · have HSy := Lib.hid (says_any (secN st i) (HD.out i hi) i hi)
        have HGi := Lib.hid (HGt.out i hi ▸ get_any HR.out i)
        have hil : (i : Int) < 2 := by omega
        obtain ⟨k0, k1, k2, k3, k4⟩ := HP.out.cells
        have HSt := Lib.hid (findAt_succ st i hi)
        obtain ⟨x, hx⟩ : ∃ x, findAt st i = x := ⟨_, rfl⟩
        have hxl : x.2 < 4294967296 := by rw [← hx]; exact findAt_lt st i
        rw [hx] at k2 HSt HP
        rw [hx]
        obtain ⟨d, hdd⟩ : ∃ d, secN st i = d := ⟨_, rfl⟩
        rw [hdd] at HSy HGi HSt
        have hgl := gen4_lt d
        have hA0 : wr.cell? ⟨w.heap.size, i, none⟩ = some (arrC st i)[i]! := by
          rw [Lib.cell_of_heap HA.out]; rcases (by omega : i = 0 ∨ i = 1) with rfl | rfl <;> rfl
        have hAf : wr.frozen? ⟨w.heap.size, i, none⟩ = false := Lib.frozen_of_heap HA.out i
        have hlt := HK.out.size
        have hA1 : (arrC st i)[i]! = .string ⟨#[]⟩ := by rcases (by omega : i = 0 ∨ i = 1) with rfl | rfl <;> rfl
        rw [hA1] at hA0
        have hAs : Hid ((wr.setCell ⟨w.heap.size, i, none⟩ (.string ⟨d.toArray⟩)).heap[w.heap.size]? = some (.cells (arrC st (i + 1)) 109 (0, 0))) := Lib.hid (by
          simp [World.setCell, Array.getElem?_modify, HA.out]
          rcases (by omega : i = 0 ∨ i = 1) with rfl | rfl <;> simp [arrC, ← hdd])
        clear hA1
        go_wp2_with fail
        refine HGi.out.mono ?_
        rintro e w1 ⟨rfl, rfl⟩
        go_wp2_with fail
        obtain ⟨W2, hW2⟩ : ∃ z, wr.setCell ⟨w.heap.size, i, none⟩ (.string ⟨d.toArray⟩) = z := ⟨_, rfl⟩
        have hKa : Kept (fun k => k = w.heap.size) wr W2 := by rw [← hW2]; exact Kept.setCell (X := fun k => k = w.heap.size) wr (p := ⟨w.heap.size, i, none⟩) rfl _
        rw [hW2] at hAs ⊢
        refine (HSy.out W2).mono ?_
        rintro e w3 ⟨rfl, hb3⟩
        have hK3 : Kept (fun k => k = w.heap.size) wr w3 := hKa.step hb3
        have HR3 := Lib.hid (HR.out.kept hK3 (fun k hk e => by have := hFi k hk; omega))
        have HP3 := Lib.hid (HP.out.kept hK3 (by omega))
        have HA3 := Lib.hid ((hb3.block w.heap.size (Array.getElem?_eq_some_iff.1 hAs.out).1).trans hAs.out)
        have HK3 : Hid (Kept (fun k => k = b) w w3) := Lib.hid (HK.out.trans hK3 (fun _ _ e => e) (fun _ h e => by omega))
        have hz3 := hK3.size
        obtain ⟨k0, k1, k2, k3, k4⟩ := HP3.out.cells
        have kf := HP3.out.free 2
        have HKs := Lib.hid (Kept.setCell (X := fun k => k = b) w3 (p := ⟨b, 2, none⟩) rfl (.int .u32 (gen4 d)))
        have hzA : w.heap.size < w3.heap.size := (Array.getElem?_eq_some_iff.1 HA3.out).1
        clear hW2 hAs hK3 hKa hA0 hAf hb3 HGi HSy
        obtain ⟨f, g⟩ := x
        obtain ⟨sb, hsb⟩ : ∃ sb, saysK d i = sb := ⟨_, rfl⟩
        rw [hsb]
        simp only at hxl k2 HP3 HSt
        unfold findStep at HSt
        rw [hsb] at HSt
        clear hdd hx hsb
        cases sb with
        | false =>
            have HStE := Lib.hid (show findAt st (i + 1) = (f, g) from HSt.out)
            go_wp2_with fail
            go_roundw
            case measure => simp [intOf]; omega
            case rel => exact ⟨i + 1, by omega, by go_num, by rw [HStE.out], HR3, by rw [HStE.out]; exact HP3, HA3, HK3⟩
        | true =>
          cases f with
          | false =>
            have HStE := Lib.hid (show findAt st (i + 1) = (true, gen4 d) from HSt.out)
            go_wp2_with fail
            go_roundw
            case measure => simp [intOf]; omega
            case rel => exact ⟨i + 1, by omega, by go_num, by rw [HStE.out], Lib.hid (HR3.out.kept HKs.out (fun k hk e => hnf (e ▸ hk))), by rw [HStE.out]; exact Lib.hid (HP3.out.set _), Lib.hid ((HKs.out.block w.heap.size (by omega) (by omega)).trans HA3.out), Lib.hid (HK3.out.set rfl)⟩
          | true =>
            by_cases hgt : g < gen4 d
            · have hgt2 : (g : Int) < (gen4 d : Int) := by omega
              have HStE := Lib.hid (show findAt st (i + 1) = (true, gen4 d) by rw [HSt.out]; simp [hgt])
              go_wp2_with fail
              go_roundw
              case measure => simp [intOf]; omega
              case rel => exact ⟨i + 1, by omega, by go_num, by rw [HStE.out], Lib.hid (HR3.out.kept HKs.out (fun k hk e => hnf (e ▸ hk))), by rw [HStE.out]; exact Lib.hid (HP3.out.set _), Lib.hid ((HKs.out.block w.heap.size (by omega) (by omega)).trans HA3.out), Lib.hid (HK3.out.set rfl)⟩
            · have hgt2 : ¬ (g : Int) < (gen4 d : Int) := by omega
              have HStE := Lib.hid (show findAt st (i + 1) = (true, g) by rw [HSt.out]; simp [hgt])
              go_wp2_with fail
              go_roundw
              case measure => simp [intOf]; omega
              case rel => exact ⟨i + 1, by omega, by go_num, by rw [HStE.out], HR3, by rw [HStE.out]; exact HP3, HA3, HK3⟩
      · obtain rfl : i = 2 := by omega
        obtain ⟨k0, k1, k2, k3, k4⟩ := HP.out.cells
        have hxl := findAt_lt st 2
        obtain ⟨x, hx⟩ : ∃ x, findAt st 2 = x := ⟨_, rfl⟩
        have hx2 : find2 st = x := hx
        rw [hx] at k2 HP hxl
        rw [hx]
        rw [hx2] at HF2
        clear hx hx2
        obtain ⟨f, g⟩ := x
        simp only at k2 HP hxl HF2
        have hlt := HK.out.size
        have hzA : w.heap.size < wr.heap.size := (Array.getElem?_eq_some_iff.1 HA.out).1
        cases f with
        | false =>
          go_wp2_with fail
          go_ret
          obtain ⟨e1, e2, e3⟩ := HF2.out
          rw [e1, e2, e3]
          exact ⟨rfl, F, HR.out, rfl, fun k hk => .inl hk, HK.out.wide (fun k _ e => .inr e), HP.out⟩
        | true =>
          rcases (by omega : g % 2 = 0 ∨ g % 2 = 1) with hg2 | hg2
          · have hgm : (g : Int) % 2 = 0 := by omega
            have ha : wr.cell? ⟨w.heap.size, 1, none⟩ = some (.string ⟨(secN st 1).toArray⟩) := by rw [Lib.cell_of_heap HA.out]; rfl
            rw [show 1 - g % 2 = 1 by omega] at HF2
            have HT := Lib.hid (Tryz.strings_Trim_one ⟨(secN st 1).toArray⟩ 0 (by decide))
            have hdl := HD.out 1 (by omega)
            obtain ⟨d, hd⟩ : ∃ d, secN st 1 = d := ⟨_, rfl⟩
            rw [hd] at ha HT HF2 hdl
            go_wp2_with fail
            refine (HT.out wr (by show d.toArray.size ≤ _; simp; omega)).mono ?_
            rintro e w4 ⟨rfl, hw4⟩
            have hb4 : Below wr.heap.size wr w4 := by
              rcases hw4 with rfl | rfl
              · exact Below.refl _ _
              · exact (Below.refl _ _).drew
            have htn := trim_none d
            obtain ⟨tr, htr⟩ : ∃ tr, (⟨(Lib.trimB d 0).toArray⟩ : ByteArray) = tr := ⟨_, rfl⟩
            rw [htr] at htn ⊢
            have hse := str_eq tr ⟨#[]⟩
            have HR4 := Lib.hid (HR.out.below hb4)
            have HP4 := Lib.hid (HP.out.below hb4)
            have hz4 := hb4.size
            have HK4 := Lib.hid (HK.out.step hb4)
            clear hw4 htr ha HT hb4
            obtain ⟨k0, k1, k2, k3, k4⟩ := HP4.out.cells
            obtain ⟨e1, e2, e3⟩ := HF2.out
            by_cases hz : d.all (· == 0) = true
            · obtain rfl := htn.2 hz
              have HE1 := Lib.hid (e1.trans (show _ = st by rw [if_pos trivial, if_pos hz]))
              have HE2 := Lib.hid (e2.trans (show _ = (0 : Int) by rw [if_pos trivial, if_pos hz]))
              have HE3 := Lib.hid e3
              clear hse htn hz e1 e2 e3 HF2
              go_wp2_with fail
              go_ret
              rw [HE1.out, HE2.out, HE3.out]
              exact ⟨rfl, F, HR4.out, rfl, fun k hk => .inl hk, HK4.out.wide (fun k _ e => .inr e), HP4.out⟩
            · have hse2 : tr.toList.isEmpty = false := by
                rw [decide_eq_false (fun h => hz (htn.1 h))] at hse
                rw [← Bool.not_eq_true, List.isEmpty_iff]
                intro h; rw [h] at hse; simp at hse
              have HE1 := Lib.hid (e1.trans (show _ = (runOps st (sureOps emB [1])).1 by rw [if_pos trivial, if_neg hz]))
              have HE2 := Lib.hid (e2.trans (show _ = (runOps st (sureOps emB [1])).2 by rw [if_pos trivial, if_neg hz]))
              have HE3 := Lib.hid e3
              have HSu := Lib.hid (sure1 (HR4.out.below ((Below.refl _ w4).alloc (Nat.le_refl _) (.cells #[.int .i64 (1 : Nat)] 3))) emB (by decide) w4.heap.size 1 1 1 rfl (fun hf => by have := hFi _ hf; omega) (by simp) (by simp [go_sem]) (by omega) (by omega))
              clear hse htn hz e1 e2 e3 HF2
              go_wp2_with fail
              refine HSu.out.mono ?_
              rintro e w5 ⟨rfl, hs5⟩
              go_wp2_with fail
              go_ret
              rw [HE1.out, HE2.out, HE3.out]
              have hbA := (Below.refl _ w4).alloc (Nat.le_refl _) (.cells #[.int .i64 (1 : Nat)] 3)
              obtain ⟨F2, g1, g2, g3, g4⟩ := hs5.back hbA
              exact ⟨rfl, F2, g1, g2, fun k hk => (g3 k hk).imp id (fun h => by omega), HK4.out.trans g4 (fun _ _ e => .inr e) (fun _ _ e => .inl e), HP4.out.kept g4 hnf⟩
          · have hgm : (g : Int) % 2 = 1 := by omega
            have ha : wr.cell? ⟨w.heap.size, 0, none⟩ = some (.string ⟨(secN st 0).toArray⟩) := by rw [Lib.cell_of_heap HA.out]; rfl
            rw [show 1 - g % 2 = 0 by omega] at HF2
            have HT := Lib.hid (Tryz.strings_Trim_one ⟨(secN st 0).toArray⟩ 0 (by decide))
            have hdl := HD.out 0 (by omega)
            obtain ⟨d, hd⟩ : ∃ d, secN st 0 = d := ⟨_, rfl⟩
            rw [hd] at ha HT HF2 hdl
            go_wp2_with fail
            refine (HT.out wr (by show d.toArray.size ≤ _; simp; omega)).mono ?_
            rintro e w4 ⟨rfl, hw4⟩
            have hb4 : Below wr.heap.size wr w4 := by
              rcases hw4 with rfl | rfl
              · exact Below.refl _ _
              · exact (Below.refl _ _).drew
            have htn := trim_none d
            obtain ⟨tr, htr⟩ : ∃ tr, (⟨(Lib.trimB d 0).toArray⟩ : ByteArray) = tr := ⟨_, rfl⟩
            rw [htr] at htn ⊢
            have hse := str_eq tr ⟨#[]⟩
            have HR4 := Lib.hid (HR.out.below hb4)
            have HP4 := Lib.hid (HP.out.below hb4)
            have hz4 := hb4.size
            have HK4 := Lib.hid (HK.out.step hb4)
            clear hw4 htr ha HT hb4
            obtain ⟨k0, k1, k2, k3, k4⟩ := HP4.out.cells
            obtain ⟨e1, e2, e3⟩ := HF2.out
            by_cases hz : d.all (· == 0) = true
            · obtain rfl := htn.2 hz
              have HE1 := Lib.hid (e1.trans (show _ = st by rw [if_pos trivial, if_pos hz]))
              have HE2 := Lib.hid (e2.trans (show _ = (0 : Int) by rw [if_pos trivial, if_pos hz]))
              have HE3 := Lib.hid e3
              clear hse htn hz e1 e2 e3 HF2
              go_wp2_with fail
              go_ret
              rw [HE1.out, HE2.out, HE3.out]
              exact ⟨rfl, F, HR4.out, rfl, fun k hk => .inl hk, HK4.out.wide (fun k _ e => .inr e), HP4.out⟩
            · have hse2 : tr.toList.isEmpty = false := by
                rw [decide_eq_false (fun h => hz (htn.1 h))] at hse
                rw [← Bool.not_eq_true, List.isEmpty_iff]
                intro h; rw [h] at hse; simp at hse
              have HE1 := Lib.hid (e1.trans (show _ = (runOps st (sureOps emB [0])).1 by rw [if_pos trivial, if_neg hz]))
              have HE2 := Lib.hid (e2.trans (show _ = (runOps st (sureOps emB [0])).2 by rw [if_pos trivial, if_neg hz]))
              have HE3 := Lib.hid e3
              have HSu := Lib.hid (sure1 (HR4.out.below ((Below.refl _ w4).alloc (Nat.le_refl _) (.cells #[.int .i64 (0 : Nat)] 3))) emB (by decide) w4.heap.size 0 1 1 rfl (fun hf => by have := hFi _ hf; omega) (by simp) (by simp [go_sem]) (by omega) (by omega))
              clear hse htn hz e1 e2 e3 HF2
              go_wp2_with fail
              refine HSu.out.mono ?_
              rintro e w5 ⟨rfl, hs5⟩
              go_wp2_with fail
              go_ret
              rw [HE1.out, HE2.out, HE3.out]
              have hbA := (Below.refl _ w4).alloc (Nat.le_refl _) (.cells #[.int .i64 (0 : Nat)] 3)
              obtain ⟨F2, g1, g2, g3, g4⟩ := hs5.back hbA
              exact ⟨rfl, F2, g1, g2, fun k hk => (g3 k hk).imp id (fun h => by omega), HK4.out.trans g4 (fun _ _ e => .inr e) (fun _ _ e => .inl e), HP4.out.kept g4 hnf⟩
end Go.Proofs.YtdebfnlnpfienaaGreatDoor
