/- works; one plate at a place, its steps. -/
import Derived.Test.YtaljgcdjkmpljaaDoorPl7
namespace Go.Proofs.YtaljgcdjkmpljaaDoor
open Go.RowKit Lift
set_option linter.unusedSimpArgs false
set_option linter.unusedVariables false

/-- A plate at a block, its blocks from base on. -/
def Pl (base : Nat) (w : World) (b : Nat) (st : St) : Prop := ∃ F, F.b = b ∧ Raw base w F st
theorem Pl.below {base b : Nat} {w w' : World} {st : St} (h : Pl base w b st) (hb : Below w.heap.size w w') : Pl base w' b st := by
  obtain ⟨F, e, h⟩ := h; exact ⟨F, e, h.below hb⟩
def PlV (base b : Nat) (st : St) (v : Value) (w : World) (e : Ending) (w' : World) : Prop := e = .returned v ∧ Pl base w' b st ∧ Below base w w'
theorem Raw.base_le {base : Nat} {w : World} {F : Fp} {st : St} (h : Raw base w F st) : base ≤ w.heap.size := by
  have := h.bb; have := h.lt.1; omega
theorem PlPost.v {base b : Nat} {F : Fp} {st st' : St} {v : Value} {w : World} {e : Ending} {w' : World} (h : Raw base w F st') (hb : F.b = b) (hp : PlPost base F st v w e w') : PlV base b st v w e w' := by
  obtain ⟨F', he, hR, hb', hf, hk⟩ := hp
  exact ⟨he, ⟨F', hb'.trans hb, hR⟩, hk.below h.base_le h.ge⟩
theorem pl_put {base b : Nat} {w : World} {st : St} (h : Pl base w b st) (x : Int) (s : ByteArray) (hs : s.size ≤ maxTx) (hll : st.lo.length ≤ 1000000000) :
    Calls Tryd.prog 28 #[.pointer (some ⟨b, 0, none⟩), .int .i64 x, .string s] w (PlV base b (putS st x s) (.int .i64 (putE st x s)) w) := by
  obtain ⟨F, rfl, h⟩ := h
  exact (put_any h x s hs hll).mono fun e w' hp => hp.v h rfl
theorem pl_sync {base b : Nat} {w : World} {st : St} (h : Pl base w b st) (hll : st.lo.length ≤ 1000000000) :
    Calls Tryd.prog 38 #[.pointer (some ⟨b, 0, none⟩)] w (PlV base b (syncS st) (.int .i64 (syncE st)) w) := by
  obtain ⟨F, rfl, h⟩ := h
  exact (sync_any h hll).mono fun e w' hp => hp.v h rfl
theorem pl_get {base b : Nat} {w : World} {st : St} (h : Pl base w b st) (x : Int) : Calls Tryd.prog 43 #[.pointer (some ⟨b, 0, none⟩), .int .i64 x] w (fun e w' => e = .returned (getV st x) ∧ w = w') := by
  obtain ⟨F, rfl, h⟩ := h
  exact get_any h x
theorem pl_down {base b : Nat} {w : World} {st : St} (h : Pl base w b st) : Calls Tryd.prog 18 #[.pointer (some ⟨b, 0, none⟩)] w (BoolPost st.off w) := by
  obtain ⟨F, rfl, h⟩ := h
  exact down_any h
theorem pl_fuse {base b : Nat} {w : World} {st : St} (h : Pl base w b st) (n : Int) (hn1 : -9223372036854775808 ≤ n) (hn2 : n ≤ 9223372036854775807) :
    Calls Tryd.prog 14 #[.pointer (some ⟨b, 0, none⟩), .int .i64 n] w (PlV base b { st with fu := max n (-1) } (.tuple #[]) w) := by
  obtain ⟨F, rfl, h⟩ := h
  exact (fuse_any h n hn1 hn2).mono fun e w' ⟨he, hR, hk⟩ => ⟨he, ⟨F, rfl, hR⟩, hk.below h.base_le h.ge⟩
theorem pl_crash {base b : Nat} {w : World} {st : St} (h : Pl base w b st) (hll : st.lo.length ≤ 1000000000) (ko : Option Addr) (kcap : Nat) (keep : List Int) (hkl : keep.length ≤ 9223372036854775807) (hap : ∀ F, Raw base w F st → F.b = b → SlAt (Rd.int .i64) (fun k => ¬ foot F k) w ko keep) :
    Calls Tryd.prog 19 #[.pointer (some ⟨b, 0, none⟩), .slice ko keep.length kcap] w (PlV base b (crashS st keep) (.tuple #[]) w) := by
  obtain ⟨F, rfl, h⟩ := h
  exact (crash_any h hll ko kcap keep hkl (hap F h rfl)).mono fun e w' ⟨he, hR, hk⟩ => ⟨he, ⟨_, by rfl, hR⟩, hk.below h.base_le h.ge⟩
theorem pl_image {base b : Nat} {w : World} {st : St} (h : Pl base w b st) : Calls Tryd.prog 13 #[.pointer (some ⟨b, 0, none⟩)] w (StrPost (imageB st.no) w) := by
  obtain ⟨F, rfl, h⟩ := h
  exact image_any h
/-- A new one. -/
def NewV (st : St) (w : World) (e : Ending) (w' : World) : Prop := ∃ b, e = .returned (.tuple #[.pointer (some ⟨b, 0, none⟩), .int .i64 0]) ∧ Pl w.heap.size w' b st ∧ Below w.heap.size w w'
theorem pl_new (w : World) (x : Int) (n : Nat) (hx : x = (n : Int)) (h1 : 1 ≤ n) (h2 : n ≤ 8192) : Calls Tryd.prog 21 #[.int .i64 x] w (NewV (St.new n) w) := by
  subst hx
  exact (new_any w n h1 h2).mono fun e w' ⟨F, he, hR, hb⟩ => ⟨F.b, he, ⟨F, rfl, hR⟩, hb⟩
/-- A slice that the call made behind the plate. -/
theorem keep_one {base b : Nat} {w : World} {st : St} {x : Int} (h : Pl base w b st) (hx : Wf x) : Pl base (w.alloc (.cells #[.int .i64 x] 3)) b st ∧ ∀ F, Raw base (w.alloc (.cells #[.int .i64 x] 3)) F st → F.b = b → True := ⟨h.below ((Below.refl _ w).alloc (Nat.le_refl _) _), fun _ _ _ => trivial⟩
theorem pl_crash1 {base b : Nat} {w : World} {st : St} (h : Pl base w b st) (hll : st.lo.length ≤ 1000000000) (x : Int) (hx : Wf x) (g : Nat) (hg : g = w.heap.size) :
    Calls Tryd.prog 19 #[.pointer (some ⟨b, 0, none⟩), .slice (some ⟨g, 0, none⟩) 1 1] (w.alloc (.cells #[.int .i64 x] 3)) (PlV base b (crashS st [x]) (.tuple #[]) w) := by
  subst hg
  obtain ⟨F, rfl, h⟩ := h
  have hb0 : Below w.heap.size w (w.alloc (.cells #[.int .i64 x] 3)) := (Below.refl _ w).alloc (Nat.le_refl _) _
  have h2 := h.below hb0
  have hsl : SlAt (Rd.int .i64) (fun k => ¬ foot F k) (w.alloc (.cells #[.int .i64 x] 3)) (some ⟨w.heap.size, 0, none⟩) [x] := by
    refine .inr ⟨w.heap.size, 0, rfl, fun hf => Nat.lt_irrefl _ (h.inb _ hf), by simp, fun k c hk => ⟨[.int .i64 c], ⟨rfl, ?_⟩, fun i v hi => ?_⟩⟩
    · match k, hk with
      | 0, hk => simp at hk; subst hk; exact hx
    · match i, hi with
      | 0, hi =>
        simp at hi; subst hi
        match k, hk with
        | 0, hk => simp at hk; subst hk; simp [go_sem, Rd.int]
  exact (crash_any h2 hll (some ⟨w.heap.size, 0, none⟩) 1 [x] (by simp) hsl).mono fun e w' ⟨he, hR, hk⟩ => ⟨he, ⟨_, by rfl, hR⟩, (hb0.mono h.base_le).trans (hk.below (by have := h.base_le; simp; omega) h2.ge)⟩

/-! ### works -/
def abB : ByteArray := ⟨#[97, 98]⟩
def wS1 : St := putS (St.new 2) 0 abB
def wS2 : St := crashS wS1 [1]
def wS3 : St := { wS2 with fu := max 0 (-1) }
def aSec : List UInt8 := 97 :: List.replicate 63 0
theorem w_e1 : putE (St.new 2) 0 abB = 0 := by decide
theorem w_g : getV wS2 0 = .tuple #[.string ⟨aSec.toArray⟩, .int .i64 0] := by rfl
theorem w_y : syncE wS3 = 12 := by decide
theorem w_o : (syncS wS3).off = true := by decide
theorem w_l : wS1.lo.length ≤ 1000000000 ∧ wS3.lo.length ≤ 1000000000 := by decide
end Go.Proofs.YtaljgcdjkmpljaaDoor
