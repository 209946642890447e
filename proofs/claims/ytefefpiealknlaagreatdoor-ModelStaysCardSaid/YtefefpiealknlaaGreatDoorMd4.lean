/- The desk's small methods: the program's. -/
import Derived.Test.YtefefpiealknlaaGreatDoorMd1
namespace Go.Proofs.YtefefpiealknlaaGreatDoor
open Go.RowKit Lift
set_option linter.unusedSimpArgs false
set_option linter.unusedVariables false

def dkCells (v : Value) (ver rule : Int) : Array Value := #[v, .int .i64 ver, .int .i64 rule]
/-- A desk in memory, with its records. -/
structure Dk (base : Nat) (w : World) (d : Nat) (v : Value) (rs : List Rec) (ver rule : Int) : Prop where
  blk : w.heap[d]? = some (.cells (dkCells v ver rule) 45 (0, 0))
  own : Own rRec (fun _ => True) w base 32 v rs
  bb : base ≤ d
  ne : v.ownBlock ≠ some d
  vb : -4611686018427387904 ≤ ver ∧ ver ≤ 4611686018427387904
section
variable {base : Nat} {w w' : World} {d : Nat} {v : Value} {rs : List Rec} {ver rule : Int}
theorem Dk.lt (h : Dk base w d v rs ver rule) : d < w.heap.size := (Array.getElem?_eq_some_iff.1 h.blk).1
theorem Dk.cells (h : Dk base w d v rs ver rule) : w.cell? ⟨d, 0, none⟩ = some v ∧ w.cell? ⟨d, 1, none⟩ = some (.int .i64 ver) ∧ w.cell? ⟨d, 2, none⟩ = some (.int .i64 rule) :=
  ⟨cell_of_row w _ _ _ _ _ h.blk, cell_of_row w _ _ _ _ _ h.blk, cell_of_row w _ _ _ _ _ h.blk⟩
theorem Dk.free (h : Dk base w d v rs ver rule) (i : Nat) : w.frozen? ⟨d, i, none⟩ = false := frozen_of_row w _ _ _ _ h.blk
theorem Dk.kept {X : Nat → Prop} (h : Dk base w d v rs ver rule) (hk : Kept X w w') (hd : ¬ X d) (hv : ∀ k, v.ownBlock = some k → ¬ X k) : Dk base w' d v rs ver rule :=
  { h with
    blk := (hk.block d h.lt hd).trans h.blk
    own := h.own.flat rec_flat hk hv }
theorem Dk.below (h : Dk base w d v rs ver rule) (hb : Below w.heap.size w w') : Dk base w' d v rs ver rule :=
  h.kept (Kept.of_below hb (fun _ => False)) (fun h => h) (fun _ _ h => h)
theorem Dk.ver' (h : Dk base w d v rs ver rule) (x : Int) (hx : -4611686018427387904 ≤ x ∧ x ≤ 4611686018427387904) : Dk base (w.setCell ⟨d, 1, none⟩ (.int .i64 x)) d v rs x rule := by
  have hk := Kept.setCell (X := fun k => k = d) w (p := ⟨d, 1, none⟩) rfl (.int .i64 x)
  exact { h with
    blk := by rw [heap_setCell_same w _ 1 _ _ _ h.blk]; rfl
    own := h.own.flat rec_flat hk (fun k e hh => by subst hh; exact h.ne e)
    vb := hx }
end
/-- Whether a record is of a client's number. -/
def hasL (n : Int) (c : Rec) : Bool := decide (c.2.2.2.2.1 = n) && decide (0 < n)
set_option maxHeartbeats 1000000 in
set_option maxRecDepth 100000 in
theorem isOf (a : Nat) (n : Int) (B : Nat) (W : World) (ha : a < B) (hB : B ≤ W.heap.size) (hc : W.cell? ⟨a, 0, none⟩ = some (.int .i64 n)) : PredOf okRec encRec 46 [.pointer (some ⟨a, 0, none⟩)] (hasL n) B W := by
  refine ⟨fun args w => by kernel_rfl, fun w c hok hb => ?_⟩
  have hcw := (hb.cell (p := ⟨a, 0, none⟩) ha).trans hc
  have hlt : a < w.heap.size := by have := hb.size; omega
  clear hb hc hok
  show Calls Tryz.prog 46 #[encRec c, .pointer (some ⟨a, 0, none⟩)] w _
  have hba : Below w.heap.size w (w.alloc (.cells #[.int .i64 c.1, .bool c.2.1, .int .i64 c.2.2.1, .string c.2.2.2.1, .int .i64 c.2.2.2.2.1, .int .i64 c.2.2.2.2.2.1, .string c.2.2.2.2.2.2.1, .int .i64 c.2.2.2.2.2.2.2.1, .string c.2.2.2.2.2.2.2.2] 32)) := (Below.refl _ _).alloc (Nat.le_refl _) _
  unfold encRec hasL
  by_cases h1 : c.2.2.2.2.1 = n
  · have hd : (c.2.2.2.2.1 == n) = true := by simpa using h1
    have hd2 : decide (c.2.2.2.2.1 = n) = true := by simpa using h1
    rw [hd2, Bool.true_and]
    clear h1
    go_enter Tryz.func46, Tryz.ntmps46
    go_wp2_with fail
    go_ret
    exact ⟨rfl, hba⟩
  · have hd : (c.2.2.2.2.1 == n) = false := by simpa using h1
    have hd2 : decide (c.2.2.2.2.1 = n) = false := by simpa using h1
    rw [hd2, Bool.false_and]
    clear h1
    go_enter Tryz.func46, Tryz.ntmps46
    go_wp2_with fail
    go_ret
    exact ⟨rfl, hba⟩
set_option maxHeartbeats 1000000 in
set_option maxRecDepth 100000 in
theorem of_any {base : Nat} {w : World} {d : Nat} {v : Value} {rs : List Rec} {ver rule : Int} (h : Dk base w d v rs ver rule) (n : Int) (hlen : rs.length ≤ 1000) :
    Calls Tryz.prog 23 #[.pointer (some ⟨d, 0, none⟩), .int .i64 n] w (BelowPost (.int .i64 (idx (hasL n) 0 rs)) w) := by
  obtain ⟨ao, cap, rfl⟩ := h.own.form
  obtain ⟨c0, c1, c2⟩ := h.cells
  have hlt := h.lt
  have hb1 : Below w.heap.size w (w.alloc (.cells #[.int .i64 n] 3)) := (Below.refl _ _).alloc (Nat.le_refl _) _
  have HC := Lib.hid (index_rec1 ao cap rs 46 (.pointer (some ⟨w.heap.size, 0, none⟩)) (hasL n) _ (h.own.here.old hb1).here (by omega) (isOf _ n _ _ (by simp) (Nat.le_refl _) (by simp [go_sem])))
  clear h
  go_enter Tryz.func23, Tryz.ntmps23
  go_wp2_with fail
  refine HC.out.mono ?_
  rintro e w3 ⟨rfl, hb3⟩
  go_wp2_with fail
  go_ret
  exact ⟨rfl, chain hb1 hb3⟩
def knewS (c : Rec) (n : Int) : ByteArray := if 0 < c.2.2.2.2.2.2.2.1 ∧ c.2.2.2.2.2.2.2.1 = n then c.2.2.2.2.2.2.2.2 else c.2.2.2.2.2.2.1
def knewI (c : Rec) (n : Int) : Int := if 0 < c.2.2.2.2.2.2.2.1 ∧ c.2.2.2.2.2.2.2.1 = n then c.2.2.2.2.2.2.2.1 else c.2.2.2.2.2.1
set_option maxHeartbeats 1000000 in
set_option maxRecDepth 100000 in
theorem knew_none (c : Rec) (n : Int) (h0 : c.2.2.2.2.2.2.2.1 = 0) (w : World) : Calls Tryz.prog 49 #[encRec c, .int .i64 n] w (BelowPost (.tuple #[.string c.2.2.2.2.2.2.1, .int .i64 c.2.2.2.2.2.1]) w) := by
  obtain ⟨d0, d1, d2, d3, d4, d5, d6, d7, d8⟩ := c
  simp only at h0
  subst h0
  have hb : Below w.heap.size w (w.alloc (.cells #[.int .i64 d0, .bool d1, .int .i64 d2, .string d3, .int .i64 d4, .int .i64 d5, .string d6, .int .i64 0, .string d8] 32)) := (Below.refl _ _).alloc (Nat.le_refl _) _
  unfold encRec
  simp only
  go_enter Tryz.func49, Tryz.ntmps49
  go_wp2_with fail
  (refine wp_region_quiet_lit (by kernel_rfl) (by kernel_rfl) ?_; (repeat (any_goals (first | go_big_quiet_step (fail) | quiet_step (fail) | (refine wpQuiet_step (fun K hK => ?_); go_simp; split <;> (refine hK _ ?_; clear hK K))))); all_goals (refine wpQuiet_nil ?_; intro _ hw'; obtain ⟨nq, hw''⟩ := hw'; subst hw''))
  go_wp2_with fail
  go_ret2
  exact ⟨rfl, bN nq hb⟩
def unsR (c : Rec) : Rec := (c.1, c.2.1, c.2.2.1, c.2.2.2.1, c.2.2.2.2.1, c.2.2.2.2.2.1, c.2.2.2.2.2.2.1, 0, ⟨#[]⟩)
set_option maxHeartbeats 1000000 in
set_option maxRecDepth 100000 in
theorem unsent_any (c : Rec) (w : World) : Calls Tryz.prog 24 #[encRec c] w (BelowPost (encRec (unsR c)) w) := by
  unfold encRec unsR
  simp only
  go_enter Tryz.func24, Tryz.ntmps24
  go_wp2_with fail
  exact bodyPost_ret (v := .agg #[.int .i64 c.1, .bool c.2.1, .int .i64 c.2.2.1, .string c.2.2.2.1, .int .i64 c.2.2.2.2.1, .int .i64 c.2.2.2.2.2.1, .string c.2.2.2.2.2.2.1, .int .i64 0, .string ⟨#[]⟩]) (by simp [results, Tryz.results24, go_sem]) rfl ⟨rfl, by go_grown⟩
def NextPost (d : Nat) (ver : Int) (w : World) (e : Ending) (w' : World) : Prop := e = .returned (.int .i64 (ver + 1)) ∧ w' = w.setCell ⟨d, 1, none⟩ (.int .i64 (ver + 1))
set_option maxHeartbeats 1000000 in
set_option maxRecDepth 100000 in
theorem next_any {base : Nat} {w : World} {d : Nat} {v : Value} {rs : List Rec} {ver rule : Int} (h : Dk base w d v rs ver rule) :
    Calls Tryz.prog 53 #[.pointer (some ⟨d, 0, none⟩)] w (NextPost d ver w) := by
  obtain ⟨c0, c1, c2⟩ := h.cells
  have f1 := h.free 1
  obtain ⟨v1, v2⟩ := h.vb
  clear h
  go_enter Tryz.func53, Tryz.ntmps53
  go_wp2_with fail
  go_ret
  exact ⟨rfl, rfl⟩
set_option maxHeartbeats 1000000 in
set_option maxRecDepth 100000 in
theorem resolve_client (b x y : ByteArray) (w : World) : Calls Tryz.prog 54 #[.int .i64 2, .string b, .string x, .string y] w (BelowPost (.string x) w) := by
  go_enter Tryz.func54, Tryz.ntmps54
  go_wp2_with fail
  go_ret
  exact ⟨rfl, Below.refl _ _⟩
set_option maxHeartbeats 1000000 in
set_option maxRecDepth 100000 in
theorem resolve_server (b x y : ByteArray) (w : World) : Calls Tryz.prog 54 #[.int .i64 1, .string b, .string x, .string y] w (BelowPost (.string y) w) := by
  go_enter Tryz.func54, Tryz.ntmps54
  go_wp2_with fail
  go_ret
  exact ⟨rfl, Below.refl _ _⟩
end Go.Proofs.YtefefpiealknlaaGreatDoor
