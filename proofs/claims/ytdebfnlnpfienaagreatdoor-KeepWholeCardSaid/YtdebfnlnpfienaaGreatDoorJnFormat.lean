/- A journal's place; Format. -/
import Derived.Test.YtdebfnlnpfienaaGreatDoorJnClear
namespace Go.Proofs.YtdebfnlnpfienaaGreatDoor
open Go.RowKit Lift
set_option linter.unusedSimpArgs false
set_option linter.unusedVariables false

def JSt.new (a sz gen : Nat) : JSt := { lim := a + sz, gen := gen, recs := [], en := a, dead := false }
theorem jnew {base : Nat} {w : World} {F : Fp} {st : St} (h : Raw base w F st) {a sz gen : Nat} (h1 : 2 ≤ sz) (h2 : a + sz ≤ st.no.length) (hg : gen < 4294967296) (hb : base ≤ w.heap.size) :
    JRaw base (w.alloc (.cells (jnCells F.b ⟨w.heap.size, .slice none 0 0⟩ (JSt.new a sz gen)) 106)) F st ⟨w.heap.size, .slice none 0 0⟩ (JSt.new a sz gen) where
  raw := h.below ((Below.refl _ _).alloc (Nat.le_refl _) _)
  blk := heap_alloc_new w _
  own := Own.nil _ _ _ _ _
  bb := hb
  gen := hg
  en := by show a < a + sz; omega
  lim := h2
  len := by show 0 ≤ a; omega
  n1 := fun hf => by have := h.inb _ hf; exact Nat.lt_irrefl _ this
  n2 := fun k e => by cases e
def PlaceV (base : Nat) (F : Fp) (st : St) (js : JSt) (w : World) (e : Ending) (w' : World) : Prop := e = .returned (.tuple #[.pointer (some ⟨w.heap.size, 0, none⟩), .int .i64 0]) ∧ JRaw base w' F st ⟨w.heap.size, .slice none 0 0⟩ js ∧ Below w.heap.size w w'
set_option maxHeartbeats 1000000 in
set_option maxRecDepth 100000 in
theorem place_ok {base : Nat} {w : World} {F : Fp} {st : St} (h : Raw base w F st) (a sz gen : Nat) (h1 : 2 ≤ sz) (h2 : a + sz ≤ st.no.length) (hg : gen < 4294967296) (hb : base ≤ w.heap.size) :
    Calls Tryz.prog 44 #[.pointer (some ⟨F.b, 0, none⟩), .int .i64 a, .int .i64 sz, .int .u32 gen] w (PlaceV base F st (JSt.new a sz gen) w) := by
  have hn2 := h.n2
  have hj := jnew h h1 h2 hg hb
  have ew : jnCells F.b ⟨w.heap.size, .slice none 0 0⟩ (JSt.new a sz gen) = #[.pointer (some ⟨F.b, 0, none⟩), .int .i64 ((a : Int) + sz), .int .u32 gen, .slice none 0 0, .int .i64 a, .bool false] := by simp [jnCells, JSt.new]
  rw [ew] at hj
  have HJ := Lib.hid hj
  clear hj ew
  have d5 : ¬ st.no.length < a := by omega
  have HS := Lib.hid (fun w1 (hw : w = w1) => hw ▸ size_any h)
  have d1 : decide ((a : Int) < 0) = false := by simp
  have d2 : decide ((sz : Int) < 2) = false := by simp; omega
  have d3 : decide ((st.no.length : Int) < (a : Int)) = false := by simp; omega
  have d4 : decide ((st.no.length : Int) - (a : Int) < (sz : Int)) = false := by simp; omega
  have e1 : ¬ (sz : Int) < 2 := by omega
  have e2 : ¬ (st.no.length : Int) < (a : Int) := by omega
  have e3 : ¬ (st.no.length : Int) - (a : Int) < (sz : Int) := by omega
  have e4 : (a : Int) ≤ 8192 := by omega
  have e5 : (sz : Int) ≤ 8192 := by omega
  clear h
  go_enter Tryz.func44, Tryz.ntmps44
  go_wp2_with ((with_reducible refine (HS.out _ rfl).mono ?_); rintro e w1 ⟨rfl, rfl⟩)
  go_ret2
  exact ⟨rfl, HJ.out, (Below.refl _ _).alloc (Nat.le_refl _) _⟩
/-- What is no place of a journal's. -/
def noPlace (st : St) (x y : Int) : Prop := x < 0 ∨ y < 2 ∨ (st.no.length : Int) < x ∨ (st.no.length : Int) - x < y
set_option maxHeartbeats 1000000 in
set_option maxRecDepth 100000 in
theorem place_no {base : Nat} {w : World} {F : Fp} {st : St} (h : Raw base w F st) (x y : Int) (gen : Nat) (hx : Wf x) (hy : Wf y) (hno : noPlace st x y) :
    Calls Tryz.prog 44 #[.pointer (some ⟨F.b, 0, none⟩), .int .i64 x, .int .i64 y, .int .u32 gen] w (fun e w' => e = .returned (.tuple #[.pointer none, .int .i64 2]) ∧ w' = w) := by
  have hn2 := h.n2
  have HS := Lib.hid (fun w1 (hw : w = w1) => hw ▸ size_any h)
  have hx1 := int_i64 hx
  clear h
  unfold noPlace at hno
  by_cases d1 : x < 0
  · have d1' : decide (x < 0) = true := by simpa using d1
    clear hno
    go_enter Tryz.func44, Tryz.ntmps44
    go_wp2_with ((with_reducible refine (HS.out _ rfl).mono ?_); rintro e w1 ⟨rfl, rfl⟩)
    go_ret2
    exact ⟨rfl, rfl⟩
  · have d1' : decide (x < 0) = false := by simpa using d1
    by_cases d2 : y < 2
    · have d2' : decide (y < 2) = true := by simpa using d2
      clear hno
      go_enter Tryz.func44, Tryz.ntmps44
      go_wp2_with ((with_reducible refine (HS.out _ rfl).mono ?_); rintro e w1 ⟨rfl, rfl⟩)
      go_ret2
      exact ⟨rfl, rfl⟩
    · have d2' : decide (y < 2) = false := by simpa using d2
      by_cases d3 : (st.no.length : Int) < x
      · have d3' : decide ((st.no.length : Int) < x) = true := by simpa using d3
        clear hno
        go_enter Tryz.func44, Tryz.ntmps44
        go_wp2_with ((with_reducible refine (HS.out _ rfl).mono ?_); rintro e w1 ⟨rfl, rfl⟩)
        go_ret2
        exact ⟨rfl, rfl⟩
      · have d3' : decide ((st.no.length : Int) < x) = false := by simpa using d3
        have d4 : (st.no.length : Int) - x < y := by omega
        have d4' : decide ((st.no.length : Int) - x < y) = true := by simpa using d4
        obtain ⟨k, rfl⟩ := Int.eq_ofNat_of_zero_le (by omega : 0 ≤ x)
        have hk : k ≤ 8192 := by omega
        have hk2 : ¬ st.no.length < k := by omega
        clear hno hx hx1
        go_enter Tryz.func44, Tryz.ntmps44
        go_wp2_with ((with_reducible refine (HS.out _ rfl).mono ?_); rintro e w1 ⟨rfl, rfl⟩)
        go_ret2
        exact ⟨rfl, rfl⟩
end Go.Proofs.YtdebfnlnpfienaaGreatDoor
