/- The reference's journal: how its data lie in memory; its small functions. -/
import Derived.Test.YtaljgcdjkmpljaaDoorJnE
import Derived.Test.YtaljgcdjkmpljaaDoorCrcW
import Derived.Deep.RegionHeld3
namespace Go.Proofs.YtaljgcdjkmpljaaDoor
open Go.RowKit Lift
set_option linter.unusedSimpArgs false
set_option linter.unusedVariables false

/-! ### The reference's plate, in a state of the program's -/
def RP (base : Nat) (w : World) (R : RF) (st : St) : Prop := ∃ rs, RRaw base w R rs ∧ Rel st rs
def RpPost (base : Nat) (R : RF) (st : St) (v : Value) (w : World) (e : Ending) (w' : World) : Prop :=
  ∃ R', e = .returned v ∧ RP base w' R' st ∧ R'.b = R.b ∧ (∀ k, rfoot R' k → rfoot R k ∨ w.heap.size ≤ k) ∧ Kept (rfoot R) w w'
section
variable {base : Nat} {w w' : World} {R : RF} {st : St}
theorem RP.lo (h : RP base w R st) : ∀ rs, Rel st rs → rs.L.length = st.lo.length := fun rs hr => by rw [hr.lo, List.length_map]
theorem RP.kept {X : Nat → Prop} (h : RP base w R st) (hk : Kept X w w') (hx : ∀ k, rfoot R k → ¬ X k) : RP base w' R st := by
  obtain ⟨rs, h1, h2⟩ := h
  exact ⟨rs, h1.kept hk hx, h2⟩
theorem RP.below (h : RP base w R st) (hb : Below w.heap.size w w') : RP base w' R st := by
  obtain ⟨rs, h1, h2⟩ := h
  exact ⟨rs, h1.below hb, h2⟩
theorem RP.inb (h : RP base w R st) : ∀ k, rfoot R k → k < w.heap.size := by obtain ⟨rs, h1, _⟩ := h; exact h1.inb
theorem RP.ge (h : RP base w R st) : ∀ k, rfoot R k → base ≤ k := by obtain ⟨rs, h1, _⟩ := h; exact h1.ge
theorem RP.base_le (h : RP base w R st) : base ≤ w.heap.size := by obtain ⟨rs, h1, _⟩ := h; exact h1.base_le
theorem RP.good (h : RP base w R st) : Good st := by obtain ⟨rs, _, h2⟩ := h; exact h2.good
theorem RP.bd (h : RP base w R st) : 1 ≤ st.no.length ∧ st.no.length ≤ 8192 := by
  obtain ⟨rs, h1, h2⟩ := h
  have := h1.n1; have := h1.n2
  rw [← h2.len]; omega
theorem RP.put (h : RP base w R st) (x : Int) (s : ByteArray) (hs : s.size ≤ maxTx) (hx : Wf x) (hll : st.lo.length ≤ 1000000000) :
    Calls Tryd.prog 29 #[.pointer (some ⟨R.b, 0, none⟩), .int .i64 x, .string s] w (RpPost base R (putS st x s) (.int .i64 (putE st x s)) w) := by
  obtain ⟨rs, h1, h2⟩ := h
  obtain ⟨e, hr⟩ := h2.put x s
  rw [← e]
  exact (put_plate_ref h1 h2.pos x s hs hx (by rw [show rs.L.length = st.lo.length by rw [h2.lo, List.length_map]]; exact hll)).mono fun e w' ⟨R', a, b, c⟩ => ⟨R', a, ⟨_, b, hr⟩, c⟩
theorem RP.sync (h : RP base w R st) (hll : st.lo.length ≤ 1000000000) :
    Calls Tryd.prog 49 #[.pointer (some ⟨R.b, 0, none⟩)] w (RpPost base R (syncS st) (.int .i64 (syncE st)) w) := by
  obtain ⟨rs, h1, h2⟩ := h
  obtain ⟨e, hr⟩ := h2.sync
  rw [← e]
  exact (sync_ref h1 h2.pos (by rw [show rs.L.length = st.lo.length by rw [h2.lo, List.length_map]]; exact hll)).mono fun e w' ⟨R', a, b, c⟩ => ⟨R', a, ⟨_, b, hr⟩, c⟩
theorem RP.get (h : RP base w R st) (x : Int) (hll : st.lo.length ≤ 1000000000) : Calls Tryd.prog 57 #[.pointer (some ⟨R.b, 0, none⟩), .int .i64 x] w (BelowPost (getV st x) w) := by
  obtain ⟨rs, h1, h2⟩ := h
  rw [← h2.get]
  exact get_ref h1 x (by rw [show rs.L.length = st.lo.length by rw [h2.lo, List.length_map]]; exact hll)
theorem RP.size (h : RP base w R st) : Calls Tryd.prog 53 #[.pointer (some ⟨R.b, 0, none⟩)] w (IntPost .i64 st.no.length w) := by
  obtain ⟨rs, h1, h2⟩ := h
  rw [← h2.len]
  exact size_ref h1
theorem RP.offc (h : RP base w R st) : w.cell? ⟨R.b, 4, none⟩ = some (.bool st.off) := by
  obtain ⟨rs, h1, h2⟩ := h
  have := h1.cells.2.2.2.2
  rwa [h2.off] at this
end

/-! ### The journal -/
def rjCells (pb : Nat) (J : JF) (a : Nat) (js : JSt) : Array Value := #[.pointer (some ⟨pb, 0, none⟩), .int .i64 a, .int .i64 (js.lim - a : Nat), .int .u32 js.gen, J.lv, .int .i64 js.en, .bool js.dead]
structure RJ (base : Nat) (w : World) (R : RF) (st : St) (J : JF) (a : Nat) (js : JSt) : Prop where
  rp : RP base w R st
  blk : w.heap[J.b]? = some (.cells (rjCells R.b J a js) 64 (0, 0))
  own : Lift.Own Rd.str (fun _ => True) w base 9 J.lv js.recs
  bb : base ≤ J.b
  gen : js.gen < 4294967296
  al : a ≤ js.lim
  en : js.en < js.lim
  lim : js.lim ≤ st.no.length
  len : js.recs.length ≤ js.en
  n1 : ¬ rfoot R J.b
  n2 : ∀ k, J.lv.ownBlock = some k → ¬ rfoot R k ∧ k ≠ J.b
def rjfoot (R : RF) (J : JF) (k : Nat) : Prop := rfoot R k ∨ k = J.b ∨ some k = J.lv.ownBlock
section
variable {base : Nat} {w w' : World} {R : RF} {st : St} {J : JF} {a : Nat} {js : JSt}
theorem RJ.lt (h : RJ base w R st J a js) : J.b < w.heap.size := (Array.getElem?_eq_some_iff.1 h.blk).1
theorem RJ.inb (h : RJ base w R st J a js) : ∀ k, rjfoot R J k → k < w.heap.size := by
  rintro k (hk | rfl | hk)
  · exact h.rp.inb k hk
  · exact h.lt
  · exact (h.own.lt k hk.symm).2
theorem RJ.ge (h : RJ base w R st J a js) : ∀ k, rjfoot R J k → base ≤ k := by
  rintro k (hk | rfl | hk)
  · exact h.rp.ge k hk
  · exact h.bb
  · exact (h.own.lt k hk.symm).1
theorem RJ.kept {X : Nat → Prop} (h : RJ base w R st J a js) (hk : Kept X w w') (hx : ∀ k, rjfoot R J k → ¬ X k) : RJ base w' R st J a js :=
  { h with
    rp := h.rp.kept hk (fun k hf => hx k (.inl hf))
    blk := (hk.block J.b h.lt (hx _ (.inr (.inl rfl)))).trans h.blk
    own := h.own.flat str_flat hk (fun k e => hx k (.inr (.inr e.symm))) }
theorem RJ.below (h : RJ base w R st J a js) (hb : Below w.heap.size w w') : RJ base w' R st J a js :=
  h.kept (Kept.of_below hb (fun _ => False)) (fun _ _ h => h)
theorem RJ.cells (h : RJ base w R st J a js) :
    w.cell? ⟨J.b, 0, none⟩ = some (.pointer (some ⟨R.b, 0, none⟩)) ∧ w.cell? ⟨J.b, 1, none⟩ = some (.int .i64 a) ∧ w.cell? ⟨J.b, 2, none⟩ = some (.int .i64 (js.lim - a : Nat)) ∧ w.cell? ⟨J.b, 3, none⟩ = some (.int .u32 js.gen) ∧ w.cell? ⟨J.b, 4, none⟩ = some J.lv ∧ w.cell? ⟨J.b, 5, none⟩ = some (.int .i64 js.en) ∧ w.cell? ⟨J.b, 6, none⟩ = some (.bool js.dead) :=
  ⟨cell_of_row w _ _ _ _ _ h.blk, cell_of_row w _ _ _ _ _ h.blk, cell_of_row w _ _ _ _ _ h.blk, cell_of_row w _ _ _ _ _ h.blk, cell_of_row w _ _ _ _ _ h.blk, cell_of_row w _ _ _ _ _ h.blk, cell_of_row w _ _ _ _ _ h.blk⟩
theorem RJ.free (h : RJ base w R st J a js) (i : Nat) : w.frozen? ⟨J.b, i, none⟩ = false := frozen_of_row w _ _ _ _ h.blk
theorem RJ.form (h : RJ base w R st J a js) : ∃ ao cap, J.lv = .slice ao js.recs.length cap := h.own.form
theorem RJ.bds (h : RJ base w R st J a js) : js.lim ≤ 8192 ∧ js.en < 8192 ∧ js.recs.length < 8192 ∧ a ≤ 8192 := by
  have := h.lim; have := h.rp.bd; have := h.en; have := h.len; have := h.al; omega
end
/-- What a step of the reference's journal leaves. -/
def RjPost (base : Nat) (R : RF) (J : JF) (a : Nat) (st : St) (js : JSt) (v : Value) (w : World) (e : Ending) (w' : World) : Prop :=
  ∃ R' J', e = .returned v ∧ RJ base w' R' st J' a js ∧ R'.b = R.b ∧ J'.b = J.b ∧ (∀ k, rjfoot R' J' k → rjfoot R J k ∨ w.heap.size ≤ k) ∧ Kept (rjfoot R J) w w'

/-! ### Need, Left -/
set_option maxHeartbeats 1000000 in
set_option maxRecDepth 100000 in
theorem rneed_any (n : Int) (hn : Wf n) (w : World) : Calls Tryd.prog 25 #[.int .i64 n] w (IntPost .i64 (needI n) w) := by
  by_cases h1 : n < 0
  · have hd : decide (n < 0) = true := by simpa using h1
    rw [show needI n = 0 by unfold needI; rw [if_pos (.inl h1)]]
    go_enter Tryd.func25, Tryd.ntmps25
    go_wp2_with fail
    go_ret
    exact ⟨rfl, rfl⟩
  · have hd : decide (n < 0) = false := by simpa using h1
    by_cases h2 : 1048576 < n
    · have hd2 : decide (1048576 < n) = true := by simpa using h2
      rw [show needI n = 0 by unfold needI; rw [if_pos (.inr h2)]]
      go_enter Tryd.func25, Tryd.ntmps25
      go_wp2_with fail
      go_ret
      exact ⟨rfl, rfl⟩
    · have hd2 : decide (1048576 < n) = false := by simpa using h2
      obtain ⟨k, rfl⟩ := Int.eq_ofNat_of_zero_le (by omega : 0 ≤ n)
      have hk : k ≤ 1048576 := by omega
      have e : ((k : Int) + 63).tdiv 64 = (((k + 63) / 64 : Nat) : Int) := by
        rw [show (k : Int) + 63 = ((k + 63 : Nat) : Int) by omega]; exact (Int.ofNat_tdiv _ _).symm
      have hq : (k + 63) / 64 ≤ 20000 := by omega
      rw [needI_nat hk]
      unfold needN
      generalize (k + 63) / 64 = q at *
      clear hn h1 h2
      go_enter Tryd.func25, Tryd.ntmps25
      go_wp2_with fail
      go_ret
      exact ⟨by congr 2, rfl⟩
theorem rleft_val {js : JSt} {a : Nat} (h : a ≤ js.lim) : leftI js = if 64 * ((a : Int) + (js.lim - a : Nat) - js.en - 2) < 0 then -1 else min (64 * ((a : Int) + (js.lim - a : Nat) - js.en - 2)) 1048576 := by
  unfold leftI; omega
set_option maxHeartbeats 1000000 in
set_option maxRecDepth 100000 in
theorem rleft_any {base : Nat} {w : World} {R : RF} {st : St} {J : JF} {a : Nat} {js : JSt} (h : RJ base w R st J a js) : Calls Tryd.prog 32 #[.pointer (some ⟨J.b, 0, none⟩)] w (BelowPost (.int .i64 (leftI js)) w) := by
  obtain ⟨c0, c1, c2, c3, c4, c5, c6⟩ := h.cells
  obtain ⟨b1, b2, b3, b4⟩ := h.bds
  have hal := h.al
  rw [rleft_val hal]
  obtain ⟨sz, hsz⟩ : ∃ sz, js.lim - a = sz := ⟨_, rfl⟩
  rw [hsz] at c2 ⊢
  have hszb : sz ≤ 8192 := by omega
  clear h hsz hal
  have q1 : ∀ x w, (Builtin.min_ #[3, 3] 3 #[.int .i64 x, .int .i64 1048576]).run Tryd.prog w = .ok (.int .i64 (min x 1048576)) w := fun x w => by
    simp [Builtin.min_, Builtin.min2, go_sem]; omega
  by_cases hneg : 64 * ((a : Int) + sz - js.en - 2) < 0
  · rw [if_pos hneg]
    have hd : decide (64 * ((a : Int) + sz - js.en - 2) < 0) = true := by simpa using hneg
    go_enter Tryd.func32, Tryd.ntmps32
    go_wp2_with fail
    (refine wp_region_quiet_lit (by kernel_rfl) (by kernel_rfl) ?_; (repeat (any_goals (first | go_big_quiet_step (fail) | quiet_step (fail) | (refine wpQuiet_step (fun K hK => ?_); go_simp; split <;> (refine hK _ ?_; clear hK K))))); all_goals (refine wpQuiet_nil ?_; intro _ hw'; obtain ⟨nq, hw''⟩ := hw'; subst hw''))
    go_wp2_with fail
    go_ret
    exact ⟨rfl, below_drewN (Below.refl _ _) _⟩
  · rw [if_neg hneg]
    have hd : decide (64 * ((a : Int) + sz - js.en - 2) < 0) = false := by simpa using hneg
    go_enter Tryd.func32, Tryd.ntmps32
    go_wp2_with fail
    (refine wp_region_quiet_lit (by kernel_rfl) (by kernel_rfl) ?_; (repeat (any_goals (first | go_big_quiet_step (fail) | quiet_step (fail) | (refine wpQuiet_step (fun K hK => ?_); go_simp; split <;> (refine hK _ ?_; clear hK K))))); all_goals (refine wpQuiet_nil ?_; intro _ hw'; obtain ⟨nq, hw''⟩ := hw'; subst hw''))
    go_wp2_with fail
    go_ret
    exact ⟨rfl, below_drewN (Below.refl _ _) _⟩
end Go.Proofs.YtaljgcdjkmpljaaDoor

/- The reference's journal: heads, places, Format. -/
namespace Go.Proofs.YtaljgcdjkmpljaaDoor
open Go.RowKit Lift Crc
set_option linter.unusedSimpArgs false
set_option linter.unusedVariables false

def fourB (n : Nat) : ByteArray := ⟨(fourL n).toArray⟩
def StrB (s : ByteArray) (w : World) (e : Ending) (w' : World) : Prop := e = .returned (.string s) ∧ Below w.heap.size w w'
theorem lit_text (w : World) (l : List UInt8) (C : Array Value) (hC : C.toList = Cs l) (n c : Nat) (hn : n = l.length) :
    (convert 32 9 (.slice (some ⟨w.heap.size, 0, none⟩) n c)).run Tryd.prog (w.alloc (.cells C 5)) = .ok (.string ⟨l.toArray⟩) (w.alloc (.cells C 5)) := by
  subst hn
  refine run_convert_bytes_back _ 32 9 5 ⟨w.heap.size, 0, none⟩ c l Tryd.underlying32 Tryd.underlying5 Tryd.underlying9 ?_
  intro j hj
  rw [Addr.add_lit, World.cell?_alloc_new]
  have h1 : C[0 + j]? = C.toList[j]? := by simp
  rw [h1, hC]
  simp [Lib.byteCells, hj]
set_option maxHeartbeats 1000000 in
set_option maxRecDepth 100000 in
theorem rfour_any (n : Nat) (hn : n < 4294967296) (w : World) : Calls Tryd.prog 74 #[.int .u32 n] w (StrB (fourB n) w) := by
  have hcv := lit_text w (fourL n) #[.int .u8 ((n : Int) % 256), .int .u8 ((n : Int) / 256 % 256), .int .u8 ((n : Int) / 65536 % 256), .int .u8 ((n : Int) / 16777216)] (by simp [fourL, u8n_toNat, Lib.byteCells]; omega) 4 4 rfl
  go_enter Tryd.func74, Tryd.ntmps74
  go_wp2_with fail
  go_ret
  exact ⟨rfl, (Below.refl _ _).alloc (Nat.le_refl _) _⟩
theorem lt21 {i : Nat} (h : i < 21) : i = 0 ∨ i = 1 ∨ i = 2 ∨ i = 3 ∨ i = 4 ∨ i = 5 ∨ i = 6 ∨ i = 7 ∨ i = 8 ∨ i = 9 ∨ i = 10 ∨ i = 11 ∨ i = 12 ∨ i = 13 ∨ i = 14 ∨ i = 15 ∨ i = 16 ∨ i = 17 ∨ i = 18 ∨ i = 19 ∨ i = 20 := by omega
theorem lt39 {i : Nat} (h : i < 39) : i = 0 ∨ i = 1 ∨ i = 2 ∨ i = 3 ∨ i = 4 ∨ i = 5 ∨ i = 6 ∨ i = 7 ∨ i = 8 ∨ i = 9 ∨ i = 10 ∨ i = 11 ∨ i = 12 ∨ i = 13 ∨ i = 14 ∨ i = 15 ∨ i = 16 ∨ i = 17 ∨ i = 18 ∨ i = 19 ∨ i = 20 ∨ i = 21 ∨ i = 22 ∨ i = 23 ∨ i = 24 ∨ i = 25 ∨ i = 26 ∨ i = 27 ∨ i = 28 ∨ i = 29 ∨ i = 30 ∨ i = 31 ∨ i = 32 ∨ i = 33 ∨ i = 34 ∨ i = 35 ∨ i = 36 ∨ i = 37 ∨ i = 38 := by omega
def zerB (n : Nat) : ByteArray := ⟨(List.replicate n 0).toArray⟩
theorem zerB_size (n : Nat) : (zerB n).size = n := by show (List.replicate n 0).toArray.size = n; simp
theorem zeros_text {w : World} {base g n : Nat} (h : w.ownsRow base 5 1 (.slice (some ⟨g, 0, none⟩) n n) n (madeCells #[Value.int .u8 0] (n * 1)).toList) : (convert 32 9 (.slice (some ⟨g, 0, none⟩) n n)).run Tryd.prog w = .ok (.string (zerB n)) w := by
  have h2 := run_convert_bytes_back (P := Tryd.prog) w 32 9 5 ⟨g, 0, none⟩ n (List.replicate n 0) Tryd.underlying32 Tryd.underlying5 Tryd.underlying9 ?_
  · rw [List.length_replicate] at h2
    exact h2
  · intro j hj
    rw [List.length_replicate] at hj
    obtain ⟨hx, h | ⟨g', cap, cur, e, _, hg, _, _, hs, ht⟩⟩ := h
    · exact absurd h.1 (by simp)
    · injection e with e1 e2 e3
      injection e1 with e1
      injection e1 with e1
      subst e1
      rw [Addr.add_lit]
      have hv : cur[0 + j]? = some (Value.int .u8 0) := by
        have h3 := congrArg (fun l => l[j]?) ht
        simp only [List.getElem?_take, Nat.mul_one, if_pos hj] at h3
        have h4 : (madeCells #[Value.int .u8 0] n).toList[j]? = some (Value.int .u8 0) := by
          rw [List.getElem?_eq_getElem (by simp [madeCells]; exact hj)]
          simp [madeCells, Nat.mod_one]
        rw [h4] at h3
        simpa using h3
      have := cell_of_row w _ (0 + j) _ _ _ hg
      rw [hv] at this
      simpa using this
def hp1 (t : Nat) : ByteArray := ⟨#[165]⟩ ++ fourB t
def hp2 (t g : Nat) : ByteArray := hp1 t ++ fourB g
def hp3 (t g n : Nat) : ByteArray := hp2 t g ++ fourB n
def hp4 (t g n : Nat) (x : BitVec 16) : ByteArray := hp3 t g n ++ ⟨#[lo x, hi x]⟩
theorem fourB_size (n : Nat) : (fourB n).size = 4 := rfl
theorem hb_sizes (t g n : Nat) (x : BitVec 16) : (hp1 t).size = 5 ∧ (hp2 t g).size = 9 ∧ (hp3 t g n).size = 13 ∧ (hp4 t g n x).size = 15 := by
  have h1 : (hp1 t).size = 5 := by unfold hp1; rw [ByteArray.size_append, fourB_size]; rfl
  have h2 : (hp2 t g).size = 9 := by unfold hp2; rw [ByteArray.size_append, fourB_size, h1]
  have h3 : (hp3 t g n).size = 13 := by unfold hp3; rw [ByteArray.size_append, fourB_size, h2]
  have h4 : (hp4 t g n x).size = 15 := by unfold hp4; rw [ByteArray.size_append, h3]; rfl
  exact ⟨h1, h2, h3, h4⟩
def rhSlot (i : Nat) : Nat := if i = 20 then 8 else i + 11
def RhR (t gen : Nat) (s : ByteArray) (x : BitVec 16) (i : Nat) (v : Value) (w : World) : Prop :=
  match i with
  | 0 => v = .int .i64 t
  | 1 => v = .int .u32 t
  | 2 => v = .string (fourB t)
  | 3 => v = .string (hp1 t)
  | 4 => v = .int .u32 gen
  | 5 => v = .string (fourB gen)
  | 6 => v = .string (hp2 t gen)
  | 7 => v = .string s
  | 8 => v = .int .i64 s.size
  | 9 => v = .int .u32 s.size
  | 10 => v = .string (fourB s.size)
  | 11 => v = .string (hp3 t gen s.size)
  | 12 | 14 => v = .int .u16 (w16 x)
  | 13 => v = .int .u8 (IntKind.u8.wrap (w16 x))
  | 15 => v = .int .u16 (w16 x / 256)
  | 16 => v = .int .u8 (IntKind.u8.wrap (w16 x / 256))
  | 17 => ∃ g, v = .slice (some ⟨g, 0, none⟩) 2 2 ∧ ∃ fz, w.heap[g]? = some (.cells #[.int .u8 (IntKind.u8.wrap (w16 x)), .int .u8 (IntKind.u8.wrap (w16 x / 256))] 5 fz)
  | 18 => v = .string ⟨#[lo x, hi x]⟩
  | 19 | 20 => v = .string (hp4 t gen s.size x)
  | _ => False
def RhMid (t gen : Nat) (s : ByteArray) (x : BitVec 16) (w1 : World) (e : Exit) (a : Act) (w' : World) : Prop :=
  e = .normal ∧ Below w1.heap.size w1 w' ∧ ∃ v28, a = { tmps := #[.int .i64 t, .int .u32 gen, .string s, undef, undef, undef, .string ⟨#[]⟩, .int .u16 (w16 x), .string (hp4 t gen s.size x), .string s, .int .u16 (w16 x),
    .int .i64 t, .int .u32 t, .string (fourB t), .string (hp1 t), .int .u32 gen, .string (fourB gen), .string (hp2 t gen), .string s, .int .i64 s.size, .int .u32 s.size, .string (fourB s.size), .string (hp3 t gen s.size),
    .int .u16 (w16 x), .int .u8 (IntKind.u8.wrap (w16 x)), .int .u16 (w16 x), .int .u16 (w16 x / 256), .int .u8 (IntKind.u8.wrap (w16 x / 256)), v28, .string ⟨#[lo x, hi x]⟩, .string (hp4 t gen s.size x), undef, undef, undef, undef, undef, undef, undef, undef], defers := [] }
theorem two_text {w : World} {g : Nat} {x : BitVec 16} {fz : Nat × Nat} (h : w.heap[g]? = some (.cells #[.int .u8 (IntKind.u8.wrap (w16 x)), .int .u8 (IntKind.u8.wrap (w16 x / 256))] 5 fz)) :
    (convert 32 9 (.slice (some ⟨g, 0, none⟩) 2 2)).run Tryd.prog w = .ok (.string ⟨#[lo x, hi x]⟩) w := by
  refine run_convert_bytes_back (P := Tryd.prog) w 32 9 5 ⟨g, 0, none⟩ 2 [lo x, hi x] Tryd.underlying32 Tryd.underlying5 Tryd.underlying9 ?_
  intro j hj
  rw [Addr.add_lit]
  match j, hj with
  | 0, _ => simp [World.cell?, h]; rw [IntKind.wrap_u8]; exact lo_w x
  | 1, _ => simp [World.cell?, h]; rw [IntKind.wrap_u8]; exact hi_w x
set_option maxHeartbeats 8000000 in
set_option maxRecDepth 100000 in
theorem rhead_any (t gen : Nat) (s : ByteArray) (w : World) (ht : t < 4294967296) (hg : gen < 4294967296) (hs : s.size ≤ 1048576) : Calls Tryd.prog 50 #[.int .i64 t, .int .u32 gen, .string s] w (StrB (headB t gen s) w) := by
  have HC := Lib.hid (of_ref s w (by unfold maxLen; omega))
  obtain ⟨x, hx⟩ : ∃ x, crc s.data.toList = x := ⟨_, rfl⟩
  go_enter Tryd.func50, Tryd.ntmps50
  go_wp2_with fail
  refine HC.out.mono ?_
  rintro e w1 ⟨rfl, hb1⟩
  rw [hx]
  go_wp2_with fail
  refine Code.wp_mono (Q := RhMid t gen s x w1) ?imp ?reg
  case imp =>
    rintro e a w' ⟨rfl, hb2, v28, rfl⟩
    obtain ⟨_, _, _, h15⟩ := hb_sizes t gen s.size x
    obtain ⟨A, hA⟩ : ∃ A, hp4 t gen s.size x = A := ⟨_, rfl⟩
    have HE := Lib.hid (show (hp4 t gen s.size x ++ zerB 48) ++ ⟨#[90]⟩ = headB t gen s by
      subst hx
      unfold hp4 hp3 hp2 hp1 headB headL twoL zerB fourB
      apply ByteArray.ext
      simp)
    rw [hA] at h15 HE ⊢
    have hsA : (A ++ zerB 48).size = 63 := by rw [ByteArray.size_append, h15, zerB_size]
    have hc1 : ¬ 9223372036854775807 < A.size + (zerB 48).size := by rw [h15, zerB_size]; decide
    have hc2 : ¬ 9223372036854775807 < (A ++ zerB 48).size + 1 := by rw [hsA]; decide
    obtain ⟨i0, hi, hz0, hz1, hz2⟩ := info_parts u8_row
    have HI := Lib.hid hi; have HZ0 := Lib.hid hz0; have HZ1 := Lib.hid hz1; have HZ2 := Lib.hid hz2
    clear hi hz0 hz1 hz2 hx hA HC
    go_wp2_with (at_make; refine wpList_make_full _ rfl _ _ 32 rfl w'.heap.size 5 i0 (.int .u8 0) 1 Tryd.underlying32 HI.out HZ0.out HZ1.out _ _ _ _ 48 rfl rfl (by simp [h15]) (by simp [h15]) (by rw [HZ2.out]; omega) (by unfold maxLen; omega) (Nat.le_refl _) ?_; intro w5 hO5 hg5; have hcv := zeros_text hO5)
    go_ret
    exact ⟨congrArg (fun t => Ending.returned (.string t)) HE.out, hb1.trans ((hb2.trans ((Kept.of_grown hg5).below (by have := hb2.size; omega) (fun k e => by cases e))).mono hb1.size)⟩
  case reg =>
    have H1 := Lib.hid (fun w => rfour_any t ht w)
    have H2 := Lib.hid (fun w => rfour_any gen hg w)
    have H3 := Lib.hid (fun w => rfour_any s.size (by omega) w)
    have u1 : IntKind.u32.wrap (t : Int) = t := by rw [IntKind.wrap_u32]; omega
    have u2 : IntKind.u32.wrap (s.size : Int) = s.size := by rw [IntKind.wrap_u32]; omega
    obtain ⟨s1, s2, s3, s4⟩ := hb_sizes t gen s.size x
    clear HC
    refine wp_region_each (by kernel_rfl) (fun w => Below w1.heap.size w1 w) (fun w w' => Below w.heap.size w w') (RhR t gen s x) rhSlot ?hd ?inj ?hord ?mono ?hS0 ?hop ?hfin
    case inj => intro i j hi hj; simp at hi hj; unfold rhSlot; split <;> split <;> intro h <;> omega
    case hS0 => exact (Below.refl _ _).drew
    case hd =>
      intro i o ho
      have hi : i < 21 := (Array.getElem?_eq_some_iff.1 ho).1
      rcases lt21 hi with rfl | rfl | rfl | rfl | rfl | rfl | rfl | rfl | rfl | rfl | rfl | rfl | rfl | rfl | rfl | rfl | rfl | rfl | rfl | rfl | rfl
      all_goals (cases ho; exact ⟨rfl, rfl, by show rhSlot _ < 39; decide⟩)
    case hord =>
      intro i o ho e he
      have hi : i < 21 := (Array.getElem?_eq_some_iff.1 ho).1
      rcases lt21 hi with rfl | rfl | rfl | rfl | rfl | rfl | rfl | rfl | rfl | rfl | rfl | rfl | rfl | rfl | rfl | rfl | rfl | rfl | rfl | rfl | rfl
      all_goals (cases ho; exact all_before (by kernel_rfl) e he)
    case mono =>
      intro i v w w' h hE
      by_cases hi : i < 21
      · rcases lt21 hi with rfl | rfl | rfl | rfl | rfl | rfl | rfl | rfl | rfl | rfl | rfl | rfl | rfl | rfl | rfl | rfl | rfl | rfl | rfl | rfl | rfl
        all_goals first
          | exact h
          | (obtain ⟨g, e1, fz, e3⟩ := h; exact ⟨g, e1, fz, (hE.block g (Array.getElem?_eq_some_iff.1 e3).1).trans e3⟩)
      · exfalso
        obtain ⟨k, rfl⟩ : ∃ k, i = k + 21 := ⟨i - 21, by omega⟩
        exact h
    case hfin =>
      intro a w hS hdf htm hr hR
      refine ⟨rfl, hS, a.tmps.getD 28 undef, act_ext htm hdf (fun t ht => ?_)⟩
      have ht : t < 39 := ht
      rcases lt39 ht with rfl | rfl | rfl | rfl | rfl | rfl | rfl | rfl | rfl | rfl | rfl | rfl | rfl | rfl | rfl | rfl | rfl | rfl | rfl | rfl | rfl | rfl | rfl | rfl | rfl | rfl | rfl | rfl | rfl | rfl | rfl | rfl | rfl | rfl | rfl | rfl | rfl | rfl | rfl
      all_goals first
        | rfl
        | exact (hr _ (by intro j hj; simp at hj; unfold rhSlot; split <;> omega)).trans rfl
        | exact hR 0 (by decide)
        | exact hR 1 (by decide)
        | exact hR 2 (by decide)
        | exact hR 3 (by decide)
        | exact hR 4 (by decide)
        | exact hR 5 (by decide)
        | exact hR 6 (by decide)
        | exact hR 7 (by decide)
        | exact hR 8 (by decide)
        | exact hR 9 (by decide)
        | exact hR 10 (by decide)
        | exact hR 11 (by decide)
        | exact hR 12 (by decide)
        | exact hR 13 (by decide)
        | exact hR 14 (by decide)
        | exact hR 15 (by decide)
        | exact hR 16 (by decide)
        | exact hR 18 (by decide)
        | exact hR 19 (by decide)
        | exact hR 20 (by decide)
    case hop =>
      intro i o ho a w hS hr he K hK
      have hi : i < 21 := (Array.getElem?_eq_some_iff.1 ho).1
      have h0 : a.tmps[0]?.getD undef = .int .i64 t := by have := hr 0 (by intro j hj; simp at hj; unfold rhSlot; split <;> omega); simpa using this
      have h1 : a.tmps[1]?.getD undef = .int .u32 gen := by have := hr 1 (by intro j hj; simp at hj; unfold rhSlot; split <;> omega); simpa using this
      have h2 : a.tmps[2]?.getD undef = .string s := by have := hr 2 (by intro j hj; simp at hj; unfold rhSlot; split <;> omega); simpa using this
      have h7 : a.tmps[7]?.getD undef = .int .u16 (w16 x) := by have := hr 7 (by intro j hj; simp at hj; unfold rhSlot; split <;> omega); simpa using this
      clear hr
      rcases lt21 hi with rfl | rfl | rfl | rfl | rfl | rfl | rfl | rfl | rfl | rfl | rfl | rfl | rfl | rfl | rfl | rfl | rfl | rfl | rfl | rfl | rfl
      all_goals (simp only [List.getElem?_toArray, List.getElem?_cons_succ, List.getElem?_cons_zero, Option.some.injEq] at ho; subst ho; simp [rhSlot, RhR, Region.binds] at he)
      all_goals (try (simp [go_sem, Oper.wp, execOp, Act.eval, he, h0, h1, h2, h7, u1, u2]; exact hK _ _ hS (Below.refl _ _) rfl))
      · simp [go_sem, Oper.wp, execOp, Act.eval, he]
        refine (H1.out w).mono ?_
        rintro e w' ⟨rfl, hb⟩
        exact hK _ _ (chain hS hb) hb rfl
      · simp [go_sem, Oper.wp, execOp, Act.eval, he.1]
        refine (H2.out w).mono ?_
        rintro e w' ⟨rfl, hb⟩
        exact hK _ _ (chain hS hb) hb rfl
      · simp [go_sem, Oper.wp, execOp, Act.eval, he.1]
        refine (H3.out w).mono ?_
        rintro e w' ⟨rfl, hb⟩
        exact hK _ _ (chain hS hb) hb rfl
      · obtain ⟨e1, e2⟩ := he
        simp [go_sem, Oper.wp, execOp, Act.eval, e1, e2]
        exact hK _ _ (hS.alloc hS.size _) ((Below.refl _ _).alloc (Nat.le_refl _) _) ⟨w.heap.size, rfl, (0, 0), heap_alloc_new _ _⟩
      · obtain ⟨g, e1, fa, fb, e3⟩ := he
        have hcv := two_text e3
        simp [go_sem, Oper.wp, execOp, Act.eval, e1, hcv]
        exact hK _ _ hS (Below.refl _ _) rfl
end Go.Proofs.YtaljgcdjkmpljaaDoor

/- The reference's journal: places, Format. -/
namespace Go.Proofs.YtaljgcdjkmpljaaDoor
open Go.RowKit Lift
set_option linter.unusedSimpArgs false
set_option linter.unusedVariables false

def RpS (base : Nat) (R : RF) (st : St) (w w' : World) : Prop := ∃ R', RP base w' R' st ∧ R'.b = R.b ∧ (∀ k, rfoot R' k → rfoot R k ∨ w.heap.size ≤ k) ∧ Kept (rfoot R) w w'
theorem RpPost.s {base : Nat} {R : RF} {st : St} {v : Value} {w w' : World} {e : Ending} (h : RpPost base R st v w e w') : e = .returned v ∧ RpS base R st w w' := by
  obtain ⟨R', h1, h2, h3, h4, h5⟩ := h
  exact ⟨h1, R', h2, h3, h4, h5⟩
theorem RpS.refl {base : Nat} {R : RF} {st : St} {w : World} (h : RP base w R st) : RpS base R st w w := ⟨R, h, rfl, fun k h => .inl h, Kept.refl _ _⟩
theorem RpS.on {base : Nat} {R R1 : RF} {st2 : St} {w w1 w2 : World} (h3 : R1.b = R.b) (h4 : ∀ k, rfoot R1 k → rfoot R k ∨ w.heap.size ≤ k) (h5 : Kept (rfoot R) w w1) (h : RpS base R1 st2 w1 w2) : RpS base R st2 w w2 := by
  obtain ⟨R2, k2, k3, k4, k5⟩ := h
  have hz := h5.size
  refine ⟨R2, k2, k3.trans h3, fun k hk => ?_, h5.trans k5 (fun _ _ h => h) (fun k hk h => ?_)⟩
  · rcases k4 k hk with h | h
    · exact h4 k h
    · exact .inr (by omega)
  · rcases h4 k h with h | h
    · exact h
    · omega
instance (st : St) (x y : Int) : Decidable (noPlace st x y) := by unfold noPlace; infer_instance
set_option maxHeartbeats 2000000 in
set_option maxRecDepth 100000 in
theorem fits_ref {base : Nat} {w : World} {R : RF} {st : St} (h : RP base w R st) (x y : Int) (hx : Wf x) (hy : Wf y) : Calls Tryd.prog 48 #[.pointer (some ⟨R.b, 0, none⟩), .int .i64 x, .int .i64 y] w (BoolPost (decide (¬ noPlace st x y)) w) := by
  have HS := Lib.hid h.size
  have hbd := h.bd
  have hx2 := int_i64 hx
  clear h hx hy
  unfold noPlace
  by_cases h1 : 0 ≤ x
  · by_cases h2 : 2 ≤ y
    · by_cases h3 : x ≤ (st.no.length : Int)
      · by_cases h4 : y ≤ (st.no.length : Int) - x
        · rw [decide_eq_true (by omega)]
          go_enter Tryd.func48, Tryd.ntmps48
          go_wp2_with (first | (go_at_call 53; refine HS.out.mono ?_; rintro e w1 ⟨rfl, rfl⟩) | fail)
          go_ret
          exact ⟨rfl, rfl⟩
        · rw [decide_eq_false (by omega)]
          go_enter Tryd.func48, Tryd.ntmps48
          go_wp2_with (first | (go_at_call 53; refine HS.out.mono ?_; rintro e w1 ⟨rfl, rfl⟩) | fail)
          go_ret
          exact ⟨congrArg (fun b => Ending.returned (.bool b)) (decide_eq_false (by omega)), rfl⟩
      · rw [decide_eq_false (by omega)]
        go_enter Tryd.func48, Tryd.ntmps48
        go_wp2_with (first | (go_at_call 53; refine HS.out.mono ?_; rintro e w1 ⟨rfl, rfl⟩) | fail)
        go_ret
        exact ⟨rfl, rfl⟩
    · rw [decide_eq_false (by omega)]
      go_enter Tryd.func48, Tryd.ntmps48
      go_wp2_with fail
      go_ret
      exact ⟨rfl, rfl⟩
  · rw [decide_eq_false (by omega)]
    go_enter Tryd.func48, Tryd.ntmps48
    go_wp2_with fail
    go_ret
    exact ⟨rfl, rfl⟩
/-- What making a journal leaves: a journal, or none and the error. -/
def RMade (base : Nat) (R : RF) (st : St) (er : Int) (a : Nat) (js : JSt) (w : World) (e : Ending) (w' : World) : Prop :=
  if er = 0 then ∃ R' J, e = .returned (.tuple #[.pointer (some ⟨J.b, 0, none⟩), .int .i64 0]) ∧ RJ base w' R' st J a js ∧ R'.b = R.b ∧ (∀ k, rjfoot R' J k → rfoot R k ∨ w.heap.size ≤ k) ∧ Kept (rfoot R) w w'
  else e = .returned (.tuple #[.pointer none, .int .i64 er]) ∧ RpS base R st w w'
theorem clear_ops (st : St) (a : Nat) : runOps st (clearOps a) = if putE st a ⟨#[]⟩ = 0 then (syncS (putS st a ⟨#[]⟩), syncE (putS st a ⟨#[]⟩)) else (putS st a ⟨#[]⟩, putE st a ⟨#[]⟩) := by
  unfold clearOps
  show (if stepEr st (some (a, ⟨#[]⟩)) = 0 then runOps (stepSt st (some (a, ⟨#[]⟩))) [none] else _) = _
  rw [runOps_one]
  rfl
theorem rj_new {base : Nat} {w w1 : World} {R R' : RF} {st : St} (hS : RP base w1 R' st) (hb : R'.b = R.b) (hf : ∀ k, rfoot R' k → rfoot R k ∨ w.heap.size ≤ k) (hk : Kept (rfoot R) w w1) (hbase : base ≤ w.heap.size) (a sz gen : Nat) (h1 : 2 ≤ sz) (h2 : a + sz ≤ st.no.length) (hg : gen < 4294967296) :
    RMade base R st 0 a (JSt.new a sz gen) w (.returned (.tuple #[.pointer (some ⟨w1.heap.size, 0, none⟩), .int .i64 0])) (w1.alloc (.cells #[.pointer (some ⟨R.b, 0, none⟩), .int .i64 a, .int .i64 sz, .int .u32 gen, .slice none 0 0, .int .i64 a, .bool false] 64)) := by
  have hz := hk.size
  have hb1 : Below w1.heap.size w1 (w1.alloc (.cells #[.pointer (some ⟨R.b, 0, none⟩), .int .i64 a, .int .i64 sz, .int .u32 gen, .slice none 0 0, .int .i64 a, .bool false] 64)) := (Below.refl _ _).alloc (Nat.le_refl _) _
  unfold RMade
  rw [if_pos rfl]
  refine ⟨R', ⟨w1.heap.size, .slice none 0 0⟩, rfl, ?_, hb, fun k hk => ?_, hk.trans (Kept.of_below hb1 (fun _ => False)) (fun _ _ h => h) (fun _ _ h => h.elim)⟩
  · exact {
      rp := hS.below hb1
      blk := by rw [heap_alloc_new, hb]; unfold rjCells JSt.new; simp
      own := Lift.Own.nil _ _ _ _ _
      bb := by show base ≤ w1.heap.size; omega
      gen := hg
      al := by show a ≤ a + sz; omega
      en := by show a < a + sz; omega
      lim := h2
      len := Nat.zero_le _
      n1 := fun h => by have := hS.inb _ h; simp at this
      n2 := fun k e => by cases e }
  · rcases hk with h | h | h
    · exact hf k h
    · exact .inr (by rw [h]; exact hz)
    · cases h
set_option maxHeartbeats 4000000 in
set_option maxRecDepth 100000 in
theorem rformat_any {base : Nat} {w : World} {R : RF} {st : St} (h : RP base w R st) (a sz gen : Nat) (h1 : 2 ≤ sz) (h2 : a + sz ≤ st.no.length) (hg : gen < 4294967296) (hlo : st.lo.length ≤ 1000000) :
    Calls Tryd.prog 24 #[.pointer (some ⟨R.b, 0, none⟩), .int .i64 a, .int .i64 sz, .int .u32 gen] w (RMade base R (runOps st (clearOps a)).1 (runOps st (clearOps a)).2 a (JSt.new a sz gen) w) := by
  have hbd := h.bd
  have hbase := h.base_le
  have HF := Lib.hid (fits_ref h a sz (Wf.of (by omega) (by omega)) (Wf.of (by omega) (by omega)))
  rw [decide_eq_true (show ¬ noPlace st a sz by unfold noPlace; omega)] at HF
  have HP := Lib.hid (h.put a ⟨#[]⟩ (by decide) (Wf.of (by omega) (by omega)) (by omega))
  have hl := runOps_len (clearOps a) st
  have hlo2 : (putS st a ⟨#[]⟩).lo.length ≤ st.lo.length + 1 := put_lo
  rw [clear_ops] at hl ⊢
  obtain ⟨st1, hst1⟩ : ∃ x, putS st a ⟨#[]⟩ = x := ⟨_, rfl⟩
  obtain ⟨e1, he1⟩ : ∃ x, putE st a ⟨#[]⟩ = x := ⟨_, rfl⟩
  rw [hst1, he1] at HP hl ⊢
  rw [hst1] at hlo2
  clear hst1 he1 h
  by_cases h0 : e1 = 0
  · subst h0
    rw [if_pos rfl] at hl ⊢
    obtain ⟨st2, hst2⟩ : ∃ x, syncS st1 = x := ⟨_, rfl⟩
    obtain ⟨e2, he2⟩ : ∃ x, syncE st1 = x := ⟨_, rfl⟩
    rw [hst2, he2]
    have hl2 : st2.no.length = st.no.length := by rw [← hst2]; exact hl
    have HST := Lib.hid hst2
    have HSE := Lib.hid he2
    clear hst2 he2 hl
    go_enter Tryd.func24, Tryd.ntmps24
    go_wp2_with (first | (go_at_call 48; refine HF.out.mono ?_; rintro e w0 ⟨rfl, rfl⟩) | fail)
    refine HP.out.mono ?_
    intro e w1 hp
    obtain ⟨rfl, hs⟩ := hp.s
    obtain ⟨R1, hR1, hb1, hf1, hk1⟩ := hs
    have HS := Lib.hid (hR1.sync (by omega))
    rw [hb1] at HS
    have HON := Lib.hid (fun (st2 : St) (w2 : World) (h : RpS base R1 st2 w1 w2) => RpS.on hb1 hf1 hk1 h)
    rw [HST.out, HSE.out] at HS
    clear hp HP HF hR1 hf1 hk1
    go_wp2_with fail
    refine HS.out.mono ?_
    intro e w2 hp
    obtain ⟨rfl, hs⟩ := hp.s
    have HS2 := Lib.hid (HON.out st2 w2 hs)
    clear HS hs hp HON hb1
    by_cases h0 : e2 = 0
    · subst h0
      obtain ⟨R2, hR2, hb2, hf2, hk2⟩ := HS2.out
      have HN := Lib.hid (rj_new hR2 hb2 hf2 hk2 hbase a sz gen h1 (by omega) hg)
      clear hR2 hb2 hf2 hk2 HS2
      go_wp2_with fail
      go_ret2
      exact HN.out
    · have hx : (e2 == 0) = false := by simpa using h0
      go_wp2_with fail
      go_ret2
      unfold RMade
      rw [if_neg h0]
      exact ⟨rfl, HS2.out⟩
  · have hx : (e1 == 0) = false := by simpa using h0
    rw [if_neg h0] at hl ⊢
    go_enter Tryd.func24, Tryd.ntmps24
    go_wp2_with (first | (go_at_call 48; refine HF.out.mono ?_; rintro e w0 ⟨rfl, rfl⟩) | fail)
    refine HP.out.mono ?_
    intro e w1 hp
    obtain ⟨rfl, hs⟩ := hp.s
    have HS2 := Lib.hid hs
    clear hl HP HF hp hs
    go_wp2_with fail
    go_ret2
    unfold RMade
    rw [if_neg h0]
    exact ⟨rfl, HS2.out⟩
end Go.Proofs.YtaljgcdjkmpljaaDoor

/- The reference's journal: the record at its end. -/
namespace Go.Proofs.YtaljgcdjkmpljaaDoor
open Go.RowKit Lift
set_option linter.unusedSimpArgs false
set_option linter.unusedVariables false

def RecPost (st : St) (js : JSt) (w : World) (e : Ending) (w' : World) : Prop :=
  ∃ t ok, e = .returned (.tuple #[.string t, .bool ok]) ∧ ok = (nextRec st.no js.lim js.gen js.recs.length js.en).isSome ∧ (ok = true → nextRec st.no js.lim js.gen js.recs.length js.en = some t) ∧ Below w.heap.size w w'
theorem add4 (x y z u : UInt8) : wrap64 (wrap64 (wrap64 (wrap64 x.toNat + wrap64 (wrap64 y.toNat * 256)) + wrap64 (wrap64 z.toNat * 65536)) + wrap64 (wrap64 u.toNat * 16777216)) = ((x.toNat + y.toNat * 256 + z.toNat * 65536 + u.toNat * 16777216 : Nat) : Int) := by
  have h1 := x.toNat_lt; have h2 := y.toNat_lt; have h3 := z.toNat_lt; have h4 := u.toNat_lt
  generalize x.toNat = x at *
  generalize y.toNat = y at *
  generalize z.toNat = z at *
  generalize u.toNat = u at *
  rw [w64_small x (by omega), w64_small y (by omega), w64_small z (by omega), w64_small u (by omega)]
  rw [show ((y : Int) * 256) = ((y * 256 : Nat) : Int) by omega, show ((z : Int) * 65536) = ((z * 65536 : Nat) : Int) by omega, show ((u : Int) * 16777216) = ((u * 16777216 : Nat) : Int) by omega]
  rw [w64_small (y * 256) (by omega), w64_small (z * 65536) (by omega), w64_small (u * 16777216) (by omega)]
  rw [show ((x : Int) + (y * 256 : Nat)) = ((x + y * 256 : Nat) : Int) by omega, w64_small _ (by omega)]
  rw [show (((x + y * 256 : Nat) : Int) + (z * 65536 : Nat)) = ((x + y * 256 + z * 65536 : Nat) : Int) by omega, w64_small _ (by omega)]
  rw [show (((x + y * 256 + z * 65536 : Nat) : Int) + (u * 16777216 : Nat)) = ((x + y * 256 + z * 65536 + u * 16777216 : Nat) : Int) by omega, w64_small _ (by omega)]
set_option maxHeartbeats 4000000 in
set_option maxRecDepth 100000 in
theorem record_ref {base : Nat} {w : World} {R : RF} {st : St} {J : JF} {a : Nat} {js : JSt} (h : RJ base w R st J a js) (ho : st.off = false) (hlo : st.lo.length ≤ 1000000) :
    Calls Tryd.prog 56 #[.pointer (some ⟨J.b, 0, none⟩)] w (RecPost st js w) := by
  obtain ⟨c0, c1, c2, c3, c4, c5, c6⟩ := h.cells
  obtain ⟨b1, b2, b3, b4⟩ := h.bds
  have hjl := h.lt
  have hen := h.en
  have hlim := h.lim
  have hal := h.al
  have hgen := h.gen
  have hd64 := h.rp.good.n64
  have H := Lib.hid h
  obtain ⟨d, hd⟩ := some_at (l := st.no) (k := js.en) (by omega)
  have hdl := hd64 d (List.mem_of_getElem? hd)
  have hgd : st.no.getD js.en [] = d := by rw [List.getD_eq_getElem?_getD, hd]; rfl
  have HGE := Lib.hid (getV_at (st := st) js.en ho (by omega))
  rw [hgd] at HGE
  have hsz : (⟨d.toArray⟩ : ByteArray).size = 64 := hdl
  obtain ⟨T, hT⟩ : ∃ T, (⟨d.toArray⟩ : ByteArray) = T := ⟨_, rfl⟩
  rw [hT] at HGE hsz
  have HG := Lib.hid (fun W (hb : Below w.heap.size w W) => (h.rp.below hb).get js.en (by omega))
  rw [HGE.out] at HG
  have HX0 := fun x : Bel w => x.cell c0 hjl
  have HX5 := fun x : Bel w => x.cell c5 hjl
  clear h c0 c1 c2 c3 c4 c5 c6 HGE
  go_enter Tryd.func56, Tryd.ntmps56
  go_wp2_with fail
  (refine wp_region_bel (by kernel_rfl) (by kernel_rfl) ?_; (repeat (any_goals (go_big_quiet_step ((go_at_call 57; exact Bel.call (HG.out _ (Bel.below _))))))); all_goals (refine wpQuiet_nil ?_; intro wq hw'; obtain ⟨⟨wq2, hwq⟩, hw''⟩ := hw'; have hw3 : wq = wq2 := hw''; clear hw''; subst hw3))
  have H1 := Lib.hid (H.out.below hwq)
  clear HX0 HX5
  go_wp2_with fail
  (refine wp_region_quiet_lit (by kernel_rfl) (by kernel_rfl) ?_; (repeat (any_goals (first | go_big_quiet_step (fail) | quiet_step (fail) | (refine wpQuiet_step (fun K hK => ?_); go_simp; split <;> (refine hK _ ?_; clear hK K))))); all_goals (refine wpQuiet_nil ?_; intro _ hw'; obtain ⟨nq, hw''⟩ := hw'; subst hw''))
  revert nq; intro q2
  obtain ⟨w1, hw1⟩ : ∃ w1, wq.drewN q2 = w1 := ⟨_, rfl⟩
  have hb1 : Below w.heap.size w w1 := by rw [← hw1]; exact bN _ hwq
  have H1 := Lib.hid (H.out.below hb1)
  rw [hw1]
  clear hw1
  obtain ⟨c0, c1, c2, c3, c4, c5, c6⟩ := H1.out.cells
  go_wp2_with fail
  rw [add4]
  have h9 : ∀ i, (h : i < T.size) → T[i] = d.getD i 0 := fun i h => by subst hT; exact get_bytes d i h
  simp only [h9]
  obtain ⟨n, hn⟩ : ∃ n, ((d.getD 9 0).toNat + (d.getD 10 0).toNat * 256 + (d.getD 11 0).toNat * 65536 + (d.getD 12 0).toNat * 16777216) = n := ⟨_, rfl⟩
  have hle : le4 d = n := hn
  have hnl := le4_lt d
  rw [hle] at hnl
  rw [hn]
  generalize (d.getD 9 0) = x9
  generalize (d.getD 10 0) = x10
  generalize (d.getD 11 0) = x11
  generalize (d.getD 12 0) = x12
  clear h9 hn HG
  obtain ⟨sz, hsz2⟩ : ∃ sz, js.lim - a = sz := ⟨_, rfl⟩
  rw [hsz2] at c2
  have hsz3 : js.lim = a + sz := by omega
  clear hsz2
  by_cases hbig : 1048576 < n
  · have hd1 : decide (1048576 < (n : Int)) = true := by simpa using (by omega : (1048576 : Int) < (n : Int))
    have hd1' : (1048576 : Int) < (n : Int) := by omega
    have hnr : nextRec st.no js.lim js.gen js.recs.length js.en = none := by unfold nextRec; rw [if_neg (by rw [hgd, hle]; omega)]
    clear hsz3
    (refine wp_region_quiet_lit (by kernel_rfl) (by kernel_rfl) ?_; (repeat (any_goals (first | go_big_quiet_step (fail) | quiet_step (fail) | (refine wpQuiet_step (fun K hK => ?_); go_simp; split <;> (refine hK _ ?_; clear hK K))))); all_goals (refine wpQuiet_nil ?_; intro _ hw'; obtain ⟨nq, hw''⟩ := hw'; subst hw''))
    go_wp2_with fail
    go_ret2
    exact ⟨_, _, rfl, by rw [hnr]; rfl, by simp, bN _ hb1⟩
  · have hd1 : decide (1048576 < (n : Int)) = false := by simpa using (by omega : ¬ (1048576 : Int) < (n : Int))
    have hd1' : ¬ (1048576 : Int) < (n : Int) := by omega
    have HN := Lib.hid (show ∀ w1, Calls Tryd.prog 25 #[.int .i64 n] w1 (fun e w' => e = .returned (.int .i64 (needN n)) ∧ w' = w1) from fun w1 => by
      rw [← needI_nat (by omega : n ≤ 1048576)]
      exact (rneed_any n (Wf.of (by omega) (by omega)) w1).mono fun _ _ ⟨a, b⟩ => ⟨a, b.symm⟩)
    have hnd : needN n ≤ 20000 := by unfold needN; omega
    by_cases hfit : js.lim < js.en + needN n + 1
    · have hd2 : decide ((a : Int) + sz < (js.en : Int) + (needN n : Int) + 1) = true := by simpa using (by omega : (a : Int) + sz < (js.en : Int) + (needN n : Int) + 1)
      have hnr : nextRec st.no js.lim js.gen js.recs.length js.en = none := by unfold nextRec; rw [if_neg (by rw [hgd, hle]; omega)]
      have hszb : sz ≤ 8192 := by omega
      clear hsz3
      (refine wp_region_quiet_lit (by kernel_rfl) (by kernel_rfl) ?_; (repeat (any_goals (first | go_big_quiet_step ((go_at_call 25; exact Calls.quiet_of_same (HN.out _))) | quiet_step ((go_at_call 25; exact Calls.quiet_of_same (HN.out _))) | (refine wpQuiet_step (fun K hK => ?_); go_simp; split <;> (refine hK _ ?_; clear hK K))))); all_goals (refine wpQuiet_nil ?_; intro _ hw'; obtain ⟨nq, hw''⟩ := hw'; subst hw''))
      go_wp2_with fail
      go_ret2
      exact ⟨_, _, rfl, by rw [hnr]; rfl, by simp, bN _ hb1⟩
    · have hd2 : decide ((a : Int) + sz < (js.en : Int) + (needN n : Int) + 1) = false := by simpa using (by omega : ¬ (a : Int) + sz < (js.en : Int) + (needN n : Int) + 1)
      have hszb : sz ≤ 8192 := by omega
      clear hsz3
      (refine wp_region_quiet_lit (by kernel_rfl) (by kernel_rfl) ?_; (repeat (any_goals (first | go_big_quiet_step ((go_at_call 25; exact Calls.quiet_of_same (HN.out _))) | quiet_step ((go_at_call 25; exact Calls.quiet_of_same (HN.out _))) | (refine wpQuiet_step (fun K hK => ?_); go_simp; split <;> (refine hK _ ?_; clear hK K))))); all_goals (refine wpQuiet_nil ?_; intro _ hw'; obtain ⟨nq, hw''⟩ := hw'; subst hw''))
      revert nq; intro q3
      obtain ⟨w2, hw2⟩ : ∃ w2, w1.drewN q3 = w2 := ⟨_, rfl⟩
      have hb2 : Below w.heap.size w w2 := by rw [← hw2]; exact bN _ hb1
      rw [hw2]
      clear hw2 c0 c1 c2 c3 c4 c5 c6 H1 hd1 hd1' hd2
      have hnl64 : bytesAt st.no (js.en + 1) 0 = [] := bytesAt_zero _ _
      go_wp2_with fail
      go_loopw [7, 8] (fun v7 v8 wr => ∃ i : Nat, v8 = .int .i64 i ∧ v7 = .string ⟨(bytesAt st.no (js.en + 1) (i - 1)).toArray⟩ ∧ 1 ≤ i ∧ i ≤ needN n ∧ Below w.heap.size w wr) (fun _ v _ => needN n - (intOf v).toNat)
      case atStart => exact ⟨1, rfl, by rw [Nat.sub_self, hnl64], Nat.le_refl _, by unfold needN; omega, hb2⟩
      case round =>
        obtain ⟨i, rfl, rfl, hi1, hi2, hB⟩ := hrel
        have H3 := Lib.hid (H.out.below hB)
        obtain ⟨c0, c1, c2, c3, c4, c5, c6⟩ := H3.out.cells
        have hj3 := H3.out.lt
        have hlb : (bytesAt st.no (js.en + 1) (i - 1)).length = 64 * (i - 1) := bytesAt_len hd64 (by omega)
        by_cases hlt : i < needN n
        · have hlt2 : (i : Int) < (needN n : Int) := by omega
          obtain ⟨x, hx⟩ := some_at (l := st.no) (k := js.en + i) (by omega)
          have hxl := hd64 x (List.mem_of_getElem? hx)
          have HGE := Lib.hid (getV_at (st := st) (js.en + i) ho (by omega))
          rw [show st.no.getD (js.en + i) [] = x by rw [List.getD_eq_getElem?_getD, hx]; rfl, show ((js.en + i : Nat) : Int) = (js.en : Int) + i by omega] at HGE
          have HG := Lib.hid (fun W (hb : Below wr.heap.size wr W) => (H3.out.rp.below hb).get ((js.en : Int) + i) (by omega))
          rw [HGE.out] at HG
          have hbs := bytesAt_succ (no := st.no) (a := js.en + 1) (n := i - 1) (d := x) (by rw [show js.en + 1 + (i - 1) = js.en + i by omega]; exact hx)
          rw [show i - 1 + 1 = i by omega] at hbs
          have HBS := Lib.hid hbs
          obtain ⟨A, hA⟩ : ∃ A, (⟨(bytesAt st.no (js.en + 1) (i - 1)).toArray⟩ : ByteArray) = A := ⟨_, rfl⟩
          obtain ⟨X, hX⟩ : ∃ X, (⟨x.toArray⟩ : ByteArray) = X := ⟨_, rfl⟩
          have hAs : A.size = 64 * (i - 1) := by rw [← hA]; exact hlb
          have hXs : X.size = 64 := by rw [← hX]; exact hxl
          have HE := Lib.hid (show A ++ X = ⟨(bytesAt st.no (js.en + 1) i).toArray⟩ by rw [← hA, ← hX, hbs]; apply ByteArray.ext; simp)
          rw [hX] at HG
          rw [hA]
          have hcc : ¬ 9223372036854775807 < A.size + X.size := by omega
          have HX0 := fun y : Bel wr => y.cell c0 hj3
          have HX5 := fun y : Bel wr => y.cell c5 hj3
          clear hbs hx hA hX hAs hXs c0 c1 c2 c3 c4 c5 c6 HGE hlb
          go_wp2_with ((with_reducible refine (HN.out _).mono ?_); rintro e w3 ⟨rfl, rfl⟩)
          (refine wp_region_bel (by kernel_rfl) (by kernel_rfl) ?_; (repeat (any_goals (go_big_quiet_step ((go_at_call 57; exact Bel.call (HG.out _ (Bel.below _))))))); all_goals (refine wpQuiet_nil ?_; intro wq hw'; obtain ⟨⟨wq2, hwq⟩, hw''⟩ := hw'; have hw3 : wq = wq2 := hw''; clear hw''; subst hw3))
          go_wp2_with fail
          go_roundw
          case measure => simp [intOf]; omega
          case rel => exact ⟨i + 1, by go_num, by rw [Nat.add_sub_cancel, HE.out], by omega, by omega, chain hB hwq⟩
        · obtain rfl : i = needN n := by omega
          have hn64 : n ≤ 64 * (needN n - 1) := by unfold needN; omega
          have hRT : (⟨(bytesAt st.no (js.en + 1) (needN n - 1)).toArray⟩ : ByteArray).extract 0 n = recText st.no js.en n := by
            apply ByteArray.ext
            simp [recText]
          have hrs : (recText st.no js.en n).size = n := recText_size hd64 (by omega)
          obtain ⟨Y, hY⟩ : ∃ Y, (⟨(bytesAt st.no (js.en + 1) (needN n - 1)).toArray⟩ : ByteArray) = Y := ⟨_, rfl⟩
          have hsl : Y.size = 64 * (needN n - 1) := by rw [← hY]; exact hlb
          rw [hY] at hRT ⊢
          have hnY : (n : Int) ≤ (Y.size : Int) := by omega
          have hYb : Y.size ≤ 9223372036854775807 := by omega
          have HRT := Lib.hid hRT
          obtain ⟨lo4, cap4, elv⟩ := H3.out.form
          rw [elv] at c4
          clear hlb hsl hY hRT
          go_wp2_with ((with_reducible refine (HN.out _).mono ?_); rintro e w3 ⟨rfl, rfl⟩)
          have HX3 := fun y : Bel w3 => y.cell c3 hj3
          have HX4 := fun y : Bel w3 => y.cell c4 hj3
          have HH := Lib.hid (fun W => rhead_any js.recs.length js.gen (recText st.no js.en n) W (by omega) hgen (by omega))
          rw [HRT.out]
          clear c0 c1 c2 c3 c4 c5 c6
          (refine wp_region_bel (by kernel_rfl) (by kernel_rfl) ?_; (repeat (any_goals (go_big_quiet_step ((go_at_call 50; exact Bel.call (HH.out _)))))); all_goals (refine wpQuiet_nil ?_; intro wq hw'; obtain ⟨⟨wq2, hwq⟩, hw''⟩ := hw'; have hw3 : wq = wq2 := hw''; clear hw''; subst hw3))
          go_wp2_with fail
          go_ret2
          have hok : (T.toList == (headB js.recs.length js.gen (recText st.no js.en n)).toList) = decide (headL js.recs.length js.gen (recText st.no js.en n) = d) := by
            rw [str_eq, ← hT]
            refine decide_eq_decide.2 ⟨fun e => ?_, fun e => by rw [← e]; rfl⟩
            have := congrArg (fun b : ByteArray => b.data.toList) e
            simpa [headB] using this.symm
          have hnr : nextRec st.no js.lim js.gen js.recs.length js.en = if headL js.recs.length js.gen (recText st.no js.en n) = d then some (recText st.no js.en n) else none := by
            unfold nextRec
            rw [hgd, hle]
            by_cases e : headL js.recs.length js.gen (recText st.no js.en n) = d
            · rw [if_pos ⟨by omega, by omega, e⟩, if_pos e]
            · rw [if_neg (fun h => e h.2.2), if_neg e]
          refine ⟨_, _, rfl, ?_, ?_, chain hB hwq⟩
          · refine hok.trans ?_
            rw [hnr]
            split <;> simp_all
          · intro h
            have h' := hok.symm.trans h
            rw [hnr, if_pos (by simpa using h')]
end Go.Proofs.YtaljgcdjkmpljaaDoor

/- The reference's journal: what an Append's steps leave. -/
namespace Go.Proofs.YtaljgcdjkmpljaaDoor
open Go.RowKit Lift
set_option linter.unusedSimpArgs false
set_option linter.unusedVariables false

def RjAt (base : Nat) (R : RF) (J : JF) (a : Nat) (st : St) (js : JSt) (w w' : World) : Prop :=
  ∃ R', RJ base w' R' st J a js ∧ R'.b = R.b ∧ (∀ k, rjfoot R' J k → rjfoot R J k ∨ w.heap.size ≤ k) ∧ Kept (rjfoot R J) w w'
section
variable {base : Nat} {w w1 w2 : World} {R R1 : RF} {st st1 st2 : St} {J : JF} {a : Nat} {js : JSt}
theorem RJ.plate (h : RJ base w R st J a js) {R' : RF} (hR : RP base w1 R' st2) (hb : R'.b = R.b) (hf : ∀ k, rfoot R' k → rfoot R k ∨ w.heap.size ≤ k) (hk : Kept (rfoot R) w w1) (hl : st2.no.length = st.no.length) : RJ base w1 R' st2 J a js where
  rp := hR
  blk := by rw [hb]; exact (hk.block J.b h.lt h.n1).trans h.blk
  own := h.own.flat str_flat hk (fun k e => (h.n2 k e).1)
  bb := h.bb
  gen := h.gen
  al := h.al
  en := h.en
  lim := by rw [hl]; exact h.lim
  len := h.len
  n1 := fun hx => by
    rcases hf _ hx with h1 | h1
    · exact h.n1 h1
    · have := h.lt; omega
  n2 := fun k e => ⟨fun hx => by
    rcases hf k hx with h1 | h1
    · exact (h.n2 k e).1 h1
    · have := (h.own.lt k e).2; omega, (h.n2 k e).2⟩
theorem RjAt.refl (h : RJ base w R st J a js) : RjAt base R J a st js w w := ⟨R, h, rfl, fun k h => .inl h, Kept.refl _ _⟩
theorem RjAt.below (h : RjAt base R J a st js w w1) (hb : Below w1.heap.size w1 w2) : RjAt base R J a st js w w2 := by
  obtain ⟨R1, h1, h2, h3, h4⟩ := h
  exact ⟨R1, h1.below hb, h2, h3, h4.trans (Kept.of_below hb (fun _ => False)) (fun _ _ h => h) (fun _ _ h => h.elim)⟩
theorem RjAt.on (h1 : RJ base w1 R1 st1 J a js) (hb : R1.b = R.b) (hf : ∀ k, rjfoot R1 J k → rjfoot R J k ∨ w.heap.size ≤ k) (hk : Kept (rjfoot R J) w w1) (hS : RpS base R1 st2 w1 w2) (hl : st2.no.length = st1.no.length) : RjAt base R J a st2 js w w2 := by
  obtain ⟨R2, k2, k3, k4, k5⟩ := hS
  have hz := hk.size
  refine ⟨R2, h1.plate k2 k3 k4 k5 hl, k3.trans hb, fun k hx => ?_, hk.trans k5 (fun _ _ h => h) (fun k hk h => ?_)⟩
  · rcases hx with hx | hx
    · rcases k4 k hx with h | h
      · exact hf k (.inl h)
      · exact .inr (by omega)
    · exact hf k (.inr hx)
  · rcases hf k (.inl h) with h | h
    · exact h
    · omega
theorem RJ.die (h : RJ base w R st J a js) : RJ base (w.setCell ⟨J.b, 6, none⟩ (.bool true)) R st J a { js with dead := true } := by
  have hk := Kept.setCell (X := fun k => k = J.b) w (p := ⟨J.b, 6, none⟩) rfl (.bool true)
  exact { h with
    rp := h.rp.kept hk (fun k hf e => h.n1 (e ▸ hf))
    blk := by rw [heap_setCell_same w _ 6 _ _ _ h.blk]; rfl
    own := h.own.flat str_flat hk (fun k e => (h.n2 k e).2) }
theorem RjAt.die (h : RjAt base R J a st js w w1) : RjAt base R J a st { js with dead := true } w (w1.setCell ⟨J.b, 6, none⟩ (.bool true)) := by
  obtain ⟨R1, h1, h2, h3, h4⟩ := h
  refine ⟨R1, h1.die, h2, h3, h4.trans (Kept.setCell (X := fun k => k = J.b) w1 (p := ⟨J.b, 6, none⟩) rfl (.bool true)) (fun _ _ h => h) (fun k hk e => .inr (.inl e))⟩
theorem RjAt.post (h : RjAt base R J a st js w w1) (v : Value) : RjPost base R J a st js v w (.returned v) w1 := by
  obtain ⟨R1, h1, h2, h3, h4⟩ := h
  exact ⟨R1, J, rfl, h1, h2, rfl, h3, h4⟩
theorem RJ.grow {v2 : Value} {s : ByteArray} {nx : Nat} (h : RJ base w R st J a js) (hK : Kept (fun k => some k = J.lv.ownBlock) w w2) (hO : Lift.Own Rd.str (fun _ => True) w2 base 9 v2 (js.recs ++ [s]))
    (hw : v2.ownBlock = J.lv.ownBlock ∨ ∃ g, v2.ownBlock = some g ∧ w.heap.size ≤ g) (h1 : js.en < nx) (h2 : nx < js.lim) :
    RJ base ((w2.setCell ⟨J.b, 4, none⟩ v2).setCell ⟨J.b, 5, none⟩ (.int .i64 nx)) R st ⟨J.b, v2⟩ a { js with recs := js.recs ++ [s], en := nx } ∧ Kept (rjfoot R J) w ((w2.setCell ⟨J.b, 4, none⟩ v2).setCell ⟨J.b, 5, none⟩ (.int .i64 nx)) ∧ ∀ k, rjfoot R ⟨J.b, v2⟩ k → rjfoot R J k ∨ w.heap.size ≤ k := by
  have hlv : ∀ k, v2.ownBlock = some k → some k = J.lv.ownBlock ∨ w.heap.size ≤ k := fun k hk => by
    rcases hw with e | ⟨g, e, hg⟩
    · exact .inl (by rw [← e, hk])
    · rw [e] at hk; cases hk; exact .inr hg
  have hJn : ¬ some J.b = J.lv.ownBlock := fun e => (h.n2 J.b e.symm).2 rfl
  have hb2 : w2.heap[J.b]? = some (.cells (rjCells R.b J a js) 64 (0, 0)) := (hK.block J.b h.lt hJn).trans h.blk
  have hk1 := Kept.setCell (X := fun k => k = J.b) w2 (p := ⟨J.b, 4, none⟩) rfl v2
  have hb3 : (w2.setCell ⟨J.b, 4, none⟩ v2).heap[J.b]? = some (.cells (rjCells R.b ⟨J.b, v2⟩ a js) 64 (0, 0)) := by rw [heap_setCell_same w2 _ 4 _ _ _ hb2]; rfl
  have hk2 := Kept.setCell (X := fun k => k = J.b) (w2.setCell ⟨J.b, 4, none⟩ v2) (p := ⟨J.b, 5, none⟩) rfl (.int .i64 nx)
  have hne : ∀ k, v2.ownBlock = some k → ¬ k = J.b := fun k hk e => by
    rcases hlv k hk with h1 | h1
    · exact hJn (e ▸ h1)
    · have := h.lt; omega
  have hkk : Kept (fun k => k = J.b ∨ some k = J.lv.ownBlock) w ((w2.setCell ⟨J.b, 4, none⟩ v2).setCell ⟨J.b, 5, none⟩ (.int .i64 nx)) :=
    ((hK.wide (fun k _ e => .inr e)).set (.inl rfl)).set (.inl rfl)
  refine ⟨{ rp := h.rp.kept hkk (fun k hf e => e.elim (fun e => h.n1 (e ▸ hf)) (fun e => (h.n2 k e.symm).1 hf)), blk := by rw [heap_setCell_same _ _ 5 _ _ _ hb3]; rfl, own := (hO.flat str_flat hk1 hne : Lift.Own Rd.str (fun _ => True) _ _ _ _ _).flat str_flat hk2 hne, bb := h.bb, gen := h.gen, al := h.al, en := h2, lim := h.lim, len := ?_, n1 := h.n1, n2 := fun k hk => ⟨fun hf => ?_, hne k hk⟩ }, hkk.wide (fun k _ e => .inr e), fun k hk => ?_⟩
  · have := h.len
    show (js.recs ++ [s]).length ≤ nx
    rw [List.length_append, List.length_singleton]; omega
  · rcases hlv k hk with h1 | h1
    · exact (h.n2 k h1.symm).1 hf
    · have := h.rp.inb k hf; omega
  · rcases hk with hk | hk | hk
    · exact .inl (.inl hk)
    · exact .inl (.inr (.inl hk))
    · rcases hlv k hk.symm with h1 | h1
      · exact .inl (.inr (.inr h1))
      · exact .inr h1
theorem RJ.pushed (h : RJ base w R st J a js) (hK : Kept (fun k => some k = J.lv.ownBlock) w w2) :
    w2.cell? ⟨J.b, 4, none⟩ = some J.lv ∧ w2.frozen? ⟨J.b, 4, none⟩ = false ∧ w2.cell? ⟨J.b, 5, none⟩ = some (.int .i64 js.en) ∧ w2.frozen? ⟨J.b, 5, none⟩ = false ∧ J.b < w2.heap.size := by
  have hJn : ¬ some J.b = J.lv.ownBlock := fun e => (h.n2 J.b e.symm).2 rfl
  obtain ⟨c0, c1, c2, c3, c4, c5, c6⟩ := h.cells
  exact ⟨(hK.cell (p := ⟨J.b, 4, none⟩) h.lt hJn).trans c4, (hK.frozen (p := ⟨J.b, 4, none⟩) h.lt hJn).trans (h.free 4), (hK.cell (p := ⟨J.b, 5, none⟩) h.lt hJn).trans c5, (hK.frozen (p := ⟨J.b, 5, none⟩) h.lt hJn).trans (h.free 5), Nat.lt_of_lt_of_le h.lt hK.size⟩
end
theorem RpS.back {base : Nat} {R : RF} {st : St} {w w0 w1 : World} (h : RpS base R st w0 w1) (hb : Below w.heap.size w w0) : RpS base R st w w1 := by
  obtain ⟨R1, h2, h3, h4, h5⟩ := h
  have hz := hb.size
  exact ⟨R1, h2, h3, fun k hk => (h4 k hk).imp id (fun h => by omega), (Kept.of_below hb (fun _ => False)).trans h5 (fun _ _ h => h.elim) (fun _ _ h => h)⟩
/-! ### Steps -/
theorem lay_next (st : St) (en : Nat) (s : ByteArray) (k : Nat) : runOps st (layOps en s (k + 1)) = if (runOps st (layOps en s k)).2 = 0 then (putS (runOps st (layOps en s k)).1 (en + 1 + k : Nat) (chunkB s k), putE (runOps st (layOps en s k)).1 (en + 1 + k : Nat) (chunkB s k)) else runOps st (layOps en s k) := by
  rw [layOps_succ, runOps_append, runOps_one]
  rfl
theorem lay_stop (st : St) (en : Nat) (s : ByteArray) (k : Nat) (h : (runOps st (layOps en s k)).2 ≠ 0) : ∀ j, runOps st (layOps en s (k + j)) = runOps st (layOps en s k)
  | 0 => rfl
  | j + 1 => by
    rw [← Nat.add_assoc, lay_next, lay_stop st en s k h j, if_neg h]
theorem four_ifs (p1 p2 p3 p4 : Int) (a b c d : St) : (if p1 = 0 then (if p2 = 0 then (if p3 = 0 then (if p4 = 0 then (d, (0 : Int)) else (d, p4)) else (c, p3)) else (b, p2)) else (a, p1)) = (if p1 = 0 then (if p2 = 0 then (if p3 = 0 then (d, p4) else (c, p3)) else (b, p2)) else (a, p1)) := by
  by_cases h : p4 = 0
  · subst h; simp
  · simp [h]
/-- The steps of an Append, one behind another. -/
theorem app_steps5 (st : St) (js : JSt) (s : ByteArray) : runOps st (appOps js s) =
    let r1 := runOps st (layOps js.en s (needN s.size - 1))
    if r1.2 = 0 then
      if putE r1.1 (js.en + needN s.size : Nat) ⟨#[]⟩ = 0 then
        if syncE (putS r1.1 (js.en + needN s.size : Nat) ⟨#[]⟩) = 0 then
          if putE (syncS (putS r1.1 (js.en + needN s.size : Nat) ⟨#[]⟩)) js.en (headB js.recs.length js.gen s) = 0 then
            (syncS (putS (syncS (putS r1.1 (js.en + needN s.size : Nat) ⟨#[]⟩)) js.en (headB js.recs.length js.gen s)), syncE (putS (syncS (putS r1.1 (js.en + needN s.size : Nat) ⟨#[]⟩)) js.en (headB js.recs.length js.gen s)))
          else (putS (syncS (putS r1.1 (js.en + needN s.size : Nat) ⟨#[]⟩)) js.en (headB js.recs.length js.gen s), putE (syncS (putS r1.1 (js.en + needN s.size : Nat) ⟨#[]⟩)) js.en (headB js.recs.length js.gen s))
        else (syncS (putS r1.1 (js.en + needN s.size : Nat) ⟨#[]⟩), syncE (putS r1.1 (js.en + needN s.size : Nat) ⟨#[]⟩))
      else (putS r1.1 (js.en + needN s.size : Nat) ⟨#[]⟩, putE r1.1 (js.en + needN s.size : Nat) ⟨#[]⟩)
    else r1 := by
  unfold appOps
  rw [show (s.size + 63) / 64 = needN s.size - 1 by unfold needN; omega, runOps_append]
  simp only
  split
  · simp only [runOps]
    exact four_ifs _ _ _ _ _ _ _ _
  · rfl
end Go.Proofs.YtaljgcdjkmpljaaDoor

/- The reference's journal: Append. -/
namespace Go.Proofs.YtaljgcdjkmpljaaDoor
open Go.RowKit Lift
set_option linter.unusedSimpArgs false
set_option linter.unusedVariables false

theorem chunk_sz (s : ByteArray) (i : Nat) : (chunkB s i).size ≤ 64 := by
  unfold chunkB
  rw [ByteArray.size_extract]
  omega
set_option maxHeartbeats 8000000 in
set_option maxRecDepth 100000 in
theorem rappend_any {base : Nat} {w : World} {R : RF} {st : St} {J : JF} {a : Nat} {js : JSt} (h : RJ base w R st J a js) (s : ByteArray) (hs : s.size ≤ maxTx) (hlo : st.lo.length ≤ 1000000) :
    Calls Tryd.prog 26 #[.pointer (some ⟨J.b, 0, none⟩), .string s] w (RjPost base R J a (appS st js s) (appJ st js s) (.int .i64 (appE st js s)) w) := by
  obtain ⟨c0, c1, c2, c3, c4, c5, c6⟩ := h.cells
  obtain ⟨b1, b2, b3, b4⟩ := h.bds
  obtain ⟨hl1, hl2⟩ := leftI_le js
  have H := Lib.hid h
  have HL := Lib.hid (rleft_any h)
  have hsb : s.size ≤ 9223372036854775807 := by unfold maxTx at hs; omega
  clear h
  cases hd : js.dead with
  | true =>
    rw [hd] at c6
    have eE : appE st js s = 12 := by simp [appE, hd]
    have eS : appS st js s = st := by simp [appS, hd]
    have eJ : appJ st js s = js := by simp [appJ, hd]
    rw [eE, eS, eJ]
    clear eE eS eJ hd
    go_enter Tryd.func26, Tryd.ntmps26
    go_wp2_with fail
    go_ret
    exact (RjAt.refl H.out).post _
  | false =>
    rw [hd] at c6
    have HD := Lib.hid hd
    clear hd
    by_cases hfull : leftI js < (s.size : Int)
    · have hdl : decide (leftI js < (s.size : Int)) = true := by simpa using hfull
      have eE : appE st js s = 4 := by simp [appE, HD.out, hfull]
      have eS : appS st js s = st := by simp [appS, HD.out, hfull]
      have eJ : appJ st js s = js := by simp [appJ, HD.out, hfull]
      rw [eE, eS, eJ]
      clear eE eS eJ
      go_enter Tryd.func26, Tryd.ntmps26
      go_wp2_with (first | (go_at_call 32; refine HL.out.mono ?_; rintro e w1 ⟨rfl, hb1⟩) | fail)
      go_ret
      exact ((RjAt.refl H.out).below hb1).post _
    · have hdl : decide (leftI js < (s.size : Int)) = false := by simpa using hfull
      have hsl : s.size ≤ 1048576 := by omega
      have hroom := left_room (js := js) (s := s) (by omega) H.out.en
      have eE : appE st js s = (runOps st (appOps js s)).2 := by simp [appE, HD.out, hfull]
      have eS : appS st js s = (runOps st (appOps js s)).1 := by simp [appS, HD.out, hfull]
      have eJ : appJ st js s = if (runOps st (appOps js s)).2 = 0 then { js with recs := js.recs ++ [s], en := js.en + needN s.size } else { js with dead := true } := by simp [appJ, HD.out, hfull]
      obtain ⟨r, hr⟩ : ∃ r, runOps st (appOps js s) = r := ⟨_, rfl⟩
      have hlr := runOps_len (appOps js s) st
      rw [hr] at eE eS eJ hlr
      have HR := Lib.hid hr
      have HEE := Lib.hid eE; have HES := Lib.hid eS; have HEJ := Lib.hid eJ
      have HN := Lib.hid (show ∀ w1, Calls Tryd.prog 25 #[.int .i64 s.size] w1 (fun e w' => e = .returned (.int .i64 (needN s.size)) ∧ w' = w1) from fun w1 => by
        rw [← needI_nat hsl]
        exact (rneed_any s.size (Wf.of (by omega) (by omega)) w1).mono fun _ _ ⟨a, b⟩ => ⟨a, b.symm⟩)
      have hnd : needN s.size ≤ 20000 := by unfold needN; omega
      clear hr eE eS eJ c0 c1 c2 c3 c4 c5
      go_enter Tryd.func26, Tryd.ntmps26
      go_wp2_with (first
        | (go_at_call 32; refine HL.out.mono ?_; rintro e w1 ⟨rfl, hb1⟩)
        | (go_at_call 25; refine (HN.out _).mono ?_; rintro e w2 ⟨rfl, rfl⟩)
        | fail)
      have hA1 := (RjAt.refl H.out).below hb1
      clear c6 HL
      go_loopw [5, 7] (fun v5 v7 wr => ∃ i : Nat, v7 = .int .i64 i ∧ 1 ≤ i ∧ i ≤ needN s.size ∧ v5 = .int .i64 (runOps st (layOps js.en s (i - 1))).2 ∧ Hid (RjAt base R J a (runOps st (layOps js.en s (i - 1))).1 js w wr)) (fun _ v _ => needN s.size - (intOf v).toNat)
      case atStart => exact ⟨1, rfl, Nat.le_refl _, by unfold needN; omega, rfl, Lib.hid hA1⟩
      case round =>
        clear hA1 hb1
        obtain ⟨i, rfl, hi1, hi2, rfl, hA⟩ := hrel
        obtain ⟨sti, hsti⟩ : ∃ x, runOps st (layOps js.en s (i - 1)) = x := ⟨_, rfl⟩
        rw [hsti] at hA ⊢
        have hli := runOps_len (layOps js.en s (i - 1)) st
        have hloi := runOps_lo (layOps js.en s (i - 1)) st
        rw [hsti] at hli hloi
        have hloi2 : sti.1.lo.length ≤ 2000000 := by simp [layOps] at hloi; omega
        have HI := Lib.hid hsti
        clear hsti hloi
        obtain ⟨st1, e1⟩ := sti
        simp only at hA hli hloi2 ⊢
        obtain ⟨j, rfl⟩ : ∃ j, i = j + 1 := ⟨i - 1, by omega⟩
        rw [Nat.add_sub_cancel] at HI
        by_cases hgo : j + 1 < needN s.size ∧ e1 = 0
        · obtain ⟨hlt, rfl⟩ := hgo
          have hlti : (j : Int) + 1 < (needN s.size : Int) := by omega
          obtain ⟨R1, hJ1, hb1, hf1, hk1⟩ := hA.out
          have hNX := lay_next st js.en s j
          rw [HI.out, if_pos rfl] at hNX
          simp only at hNX
          have hj64 : 64 * j < s.size := by unfold needN at hlt; omega
          obtain ⟨m, hm⟩ : ∃ m, min (64 * (j + 1)) s.size = m := ⟨_, rfl⟩
          have hm1 : 64 * j < m := by omega
          have hm2 : m ≤ s.size := by omega
          have hm3 : m ≤ 64 * j + 64 := by omega
          have hch : s.extract (64 * j) m = chunkB s j := by unfold chunkB; rw [hm]
          have hcs : (chunkB s j).size ≤ 64 := (chunk_sz s j)
          have q1 : ∀ w, (Builtin.min_ #[3, 3] 3 #[.int .i64 (64 * ((j : Int) + 1)), .int .i64 s.size]).run Tryd.prog w = .ok (.int .i64 m) w := fun w => by
            simp [Builtin.min_, Builtin.min2, go_sem]; omega
          have HCH := Lib.hid hch
          have HMN := Lib.hid (show min (64 * ((j : Int) + 1)) (s.size : Int) = (m : Int) by omega)
          have HNX := Lib.hid hNX
          clear hm hNX hch
          go_wp2_with fail
          obtain ⟨W2, hW2⟩ : ∃ W2, ({ heap := wr.heap, tape := wr.tape, drawn := wr.drawn + 1, os := wr.os, output := wr.output } : World) = W2 := ⟨_, rfl⟩
          have hbd : Below wr.heap.size wr W2 := hW2 ▸ (Below.refl _ wr).drew
          have hJ2 := hJ1.below hbd
          obtain ⟨c0, _, _, _, _, c5, _⟩ := hJ2.cells
          rw [hb1] at c0
          have HPut := Lib.hid (hJ2.rp.put ((js.en + 1 + j : Nat) : Int) (chunkB s j) (by unfold maxTx; omega) (Wf.of (by omega) (by omega)) (by omega))
          rw [hb1] at HPut
          have HJ2 := Lib.hid hJ2
          clear hJ2 hJ1
          have hmi : (m : Int) ≤ (s.size : Int) := by omega
          have hmj : 64 * (j : Int) ≤ (m : Int) := by omega
          have hcast : (js.en : Int) + ((j : Int) + 1) = ((js.en + 1 + j : Nat) : Int) := by omega
          have HCAST := Lib.hid hcast
          clear hcast
          have hj8 : j ≤ 20000 := by omega
          have hmin : min (64 * ((j : Int) + 1)) (s.size : Int) = (m : Int) := HMN.out
          have hw1 : IntKind.i64.wrap (j : Int) = j := by rw [IntKind.wrap_i64]; omega
          have hw2 : IntKind.i64.wrap (64 * (j : Int)) = 64 * j := by rw [IntKind.wrap_i64]; omega
          have hw3 : IntKind.i64.wrap (64 * ((j : Int) + 1)) = 64 * ((j : Int) + 1) := by rw [IntKind.wrap_i64]; omega
          have hw4 : IntKind.i64.wrap ((js.en : Int) + ((j : Int) + 1)) = (js.en : Int) + ((j : Int) + 1) := by rw [IntKind.wrap_i64]; omega
          have hj0 : 0 ≤ 64 * (j : Int) := by omega
          refine wp_region_still_tail 20 (by kernel_rfl) (by kernel_rfl) ?_
          rw [hW2]
          clear hW2
          simp only [List.take_succ_cons, List.take_zero, List.drop_succ_cons, List.drop_zero]
          repeat still_step
          clear hw1 hw2 hw3 hw4 hmin
          refine wpStill_nil ?_
          go_wp2_with fail
          rw [HCH.out, HCAST.out]
          refine HPut.out.mono ?_
          intro e w3 hp
          obtain ⟨rfl, hs3⟩ := hp.s
          have hk2 : Kept (rjfoot R J) w W2 := hk1.trans (Kept.of_below hbd (fun _ => False)) (fun _ _ h => h) (fun _ _ h => h.elim)
          have hl3 : (putS st1 ((js.en + 1 + j : Nat) : Int) (chunkB s j)).no.length = st1.no.length := by
            have h1 := runOps_len (layOps js.en s (j + 1)) st
            rw [HNX.out] at h1
            exact h1.trans hli.symm
          have HA3 := Lib.hid (RjAt.on (w := w) HJ2.out hb1 hf1 hk2 hs3 hl3)
          clear HPut hs3 hp hk1 hk2 HJ2
          go_wp2_with fail
          go_roundw
          case measure => simp [intOf]; omega
          case rel => exact ⟨j + 1 + 1, by go_num, by omega, by omega, by rw [Nat.add_sub_cancel, HNX.out, show (js.en : Int) + 1 + (j : Int) = ((js.en + 1 + j : Nat) : Int) by omega], by rw [Nat.add_sub_cancel, HNX.out]; exact HA3⟩
        · have hx : (e1 = 0 ∧ j + 1 = needN s.size) ∨ e1 ≠ 0 := by
            by_cases h0 : e1 = 0
            · exact .inl ⟨h0, by have : ¬ j + 1 < needN s.size := fun h => hgo ⟨h, h0⟩; omega⟩
            · exact .inr h0
          clear hgo
          have HST := app_steps5 st js s
          rw [HR.out] at HST
          rcases hx with ⟨rfl, hje⟩ | hne
          · rw [show needN s.size - 1 = j by omega, HI.out] at HST
            simp only [if_true] at HST
            have hlti : ¬ (j : Int) + 1 < (needN s.size : Int) := by omega
            obtain ⟨R1, hJ1, hb1, hf1, hk1⟩ := hA.out
            clear hje
            go_wp2_with fail
            obtain ⟨W2, hW2⟩ : ∃ W2, ({ heap := wr.heap, tape := wr.tape, drawn := wr.drawn + 1, os := wr.os, output := wr.output } : World) = W2 := ⟨_, rfl⟩
            have hbd : Below wr.heap.size wr W2 := hW2 ▸ (Below.refl _ wr).drew
            have hJ2 := hJ1.below hbd
            obtain ⟨c0, _, _, _, _, c5, _⟩ := hJ2.cells
            rw [hb1] at c0
            have HPut := Lib.hid (hJ2.rp.put ((js.en + needN s.size : Nat) : Int) ⟨#[]⟩ (by decide) (Wf.of (by omega) (by omega)) (by omega))
            rw [hb1] at HPut
            have HJ2 := Lib.hid hJ2
            clear hJ2 hJ1
            have HCAST := Lib.hid (show (js.en : Int) + (needN s.size : Int) = ((js.en + needN s.size : Nat) : Int) by omega)
            have hw4 : IntKind.i64.wrap ((js.en : Int) + (needN s.size : Int)) = (js.en : Int) + (needN s.size : Int) := by rw [IntKind.wrap_i64]; omega

            refine wp_region_still_tail 10 (by kernel_rfl) (by kernel_rfl) ?_
            rw [hW2]
            clear hW2
            simp only [List.take_succ_cons, List.take_zero, List.drop_succ_cons, List.drop_zero]
            repeat still_step
            clear hw4
            refine wpStill_nil ?_
            go_wp2_with fail
            rw [HCAST.out]
            refine HPut.out.mono ?_
            intro e w3 hp
            obtain ⟨rfl, hs3⟩ := hp.s
            have hk2 : Kept (rjfoot R J) w W2 := hk1.trans (Kept.of_below hbd (fun _ => False)) (fun _ _ h => h) (fun _ _ h => h.elim)
            have hl3 : (putS st1 ((js.en + needN s.size : Nat) : Int) ⟨#[]⟩).no.length = st1.no.length := by
              have h1 := runOps_len [some (js.en + needN s.size, ⟨#[]⟩)] st1
              rwa [runOps_one] at h1
            have hlo3 : (putS st1 ((js.en + needN s.size : Nat) : Int) ⟨#[]⟩).lo.length ≤ st1.lo.length + 1 := put_lo
            have HA3 := Lib.hid (RjAt.on (w := w) HJ2.out hb1 hf1 hk2 hs3 hl3)
            obtain ⟨st2, hst2⟩ : ∃ x, putS st1 ((js.en + needN s.size : Nat) : Int) ⟨#[]⟩ = x := ⟨_, rfl⟩
            obtain ⟨e2, he2⟩ : ∃ x, putE st1 ((js.en + needN s.size : Nat) : Int) ⟨#[]⟩ = x := ⟨_, rfl⟩
            rw [hst2] at HA3 hl3 hlo3
            rw [hst2, he2] at HST
            rw [he2]
            clear HPut hs3 hp hk1 hk2 HJ2 hst2 he2 hA
            by_cases hne : e2 = 0
            case neg =>
              rw [if_neg hne] at HST
              have HST := Lib.hid HST
              have hr1 : r = _ := HST.out
              have hEE := HEE.out; have hES := HES.out; have hEJ := HEJ.out
              rw [hr1] at hEE hES hEJ
              simp only at hEE hES hEJ
              rw [if_neg hne] at hEJ
              have HX := Lib.hid (show RjPost base R J a (appS st js s) (appJ st js s) (.int .i64 (appE st js s)) w (.returned (.int .i64 e2)) (w3.setCell ⟨J.b, 6, none⟩ (.bool true)) by
                rw [hEE, hES, hEJ]
                exact HA3.out.die.post _)
              obtain ⟨RX, hJX, _, _, _⟩ := HA3.out
              have c6 := hJX.cells.2.2.2.2.2.2
              have f6 := hJX.free 6
              have hxe : (e2 == 0) = false := by simpa using hne
              clear hJX hEE hES hEJ HST hr1 hne
              go_wp2_with fail
              go_ret
              exact HX.out
            subst hne
            rw [if_pos rfl] at HST
            have HST2 := Lib.hid HST
            clear HST
            obtain ⟨R3, hJ3, hb3, hf3, hk3⟩ := HA3.out
            have HS := Lib.hid (hJ3.rp.sync (by omega))
            rw [hb3] at HS
            have c0 := hJ3.cells.1
            rw [hb3] at c0
            have HJ3 := Lib.hid hJ3
            clear hJ3 HA3
            go_wp2_with fail
            refine HS.out.mono ?_
            intro e w4 hp
            obtain ⟨rfl, hs4⟩ := hp.s
            have hl4 : (syncS st2).no.length = st2.no.length := by
              have h1 := runOps_len [none] st2
              rwa [runOps_one] at h1
            have hlo4 : (syncS st2).lo.length ≤ st2.lo.length + 1 := sync_lo
            have HA4 := Lib.hid (RjAt.on (w := w) HJ3.out hb3 hf3 hk3 hs4 hl4)
            have HST := HST2.out
            obtain ⟨st4, hst4⟩ : ∃ x, syncS st2 = x := ⟨_, rfl⟩
            obtain ⟨e4, he4⟩ : ∃ x, syncE st2 = x := ⟨_, rfl⟩
            rw [hst4] at HA4 hl4 hlo4
            rw [hst4, he4] at HST
            rw [he4]
            clear HS hs4 hp hk3 HJ3 hst4 he4 HST2 c0
            by_cases hne : e4 = 0
            case neg =>
              rw [if_neg hne] at HST
              have HST := Lib.hid HST
              have hr1 : r = _ := HST.out
              have hEE := HEE.out; have hES := HES.out; have hEJ := HEJ.out
              rw [hr1] at hEE hES hEJ
              simp only at hEE hES hEJ
              rw [if_neg hne] at hEJ
              have HX := Lib.hid (show RjPost base R J a (appS st js s) (appJ st js s) (.int .i64 (appE st js s)) w (.returned (.int .i64 e4)) (w4.setCell ⟨J.b, 6, none⟩ (.bool true)) by
                rw [hEE, hES, hEJ]
                exact HA4.out.die.post _)
              obtain ⟨RX, hJX, _, _, _⟩ := HA4.out
              have c6 := hJX.cells.2.2.2.2.2.2
              have f6 := hJX.free 6
              have hxe : (e4 == 0) = false := by simpa using hne
              clear hJX hEE hES hEJ HST hr1 hne
              go_wp2_with fail
              go_ret
              exact HX.out
            subst hne
            rw [if_pos rfl] at HST
            have HST2 := Lib.hid HST
            clear HST
            obtain ⟨R4, hJ4, hb4, hf4, hk4⟩ := HA4.out
            obtain ⟨c0, _, _, c3, c4, c5, _⟩ := hJ4.cells
            rw [hb4] at c0
            obtain ⟨lo4, cap4, elv⟩ := hJ4.form
            rw [elv] at c4
            have hjl := hJ4.lt
            have hjn := hJ4.n1
            have hgn := hJ4.gen
            have HK := Lib.hid (fun wx (hb : Below w4.heap.size w4 wx) => show wx.cell? ⟨J.b, 0, none⟩ = some (.pointer (some ⟨R.b, 0, none⟩)) ∧ wx.cell? ⟨J.b, 3, none⟩ = some (.int .u32 js.gen) ∧ wx.cell? ⟨J.b, 4, none⟩ = some (.slice lo4 js.recs.length cap4) ∧ wx.cell? ⟨J.b, 5, none⟩ = some (.int .i64 js.en) from
              ⟨(hb.cell (p := ⟨J.b, 0, none⟩) hjl).trans c0, (hb.cell (p := ⟨J.b, 3, none⟩) hjl).trans c3, (hb.cell (p := ⟨J.b, 4, none⟩) hjl).trans c4, (hb.cell (p := ⟨J.b, 5, none⟩) hjl).trans c5⟩)
            have HQ := Lib.hid (fun wx st' (hb : RpS base R4 st' w4 wx) => show wx.cell? ⟨J.b, 0, none⟩ = some (.pointer (some ⟨R.b, 0, none⟩)) ∧ wx.cell? ⟨J.b, 3, none⟩ = some (.int .u32 js.gen) ∧ wx.cell? ⟨J.b, 4, none⟩ = some (.slice lo4 js.recs.length cap4) ∧ wx.cell? ⟨J.b, 5, none⟩ = some (.int .i64 js.en) from by
              obtain ⟨_, _, _, _, hb⟩ := hb
              exact ⟨(hb.cell (p := ⟨J.b, 0, none⟩) hjl hjn).trans c0, (hb.cell (p := ⟨J.b, 3, none⟩) hjl hjn).trans c3, (hb.cell (p := ⟨J.b, 4, none⟩) hjl hjn).trans c4, (hb.cell (p := ⟨J.b, 5, none⟩) hjl hjn).trans c5⟩)
            have hhs : (headB js.recs.length js.gen s).size ≤ maxTx := by have : (headB js.recs.length js.gen s).size = 64 := headL_len _ _ _; rw [this]; decide
            have HH := Lib.hid (fun wx => rhead_any js.recs.length js.gen s wx (by omega) hgn hsl)
            have HP := Lib.hid (fun wx (hb : Below w4.heap.size w4 wx) => (hJ4.rp.below hb).put js.en (headB js.recs.length js.gen s) hhs (Wf.of (by omega) (by omega)) (by omega))
            rw [hb4] at HP
            have hb0 : Below w4.heap.size w4 w4.drew := (Below.refl _ w4).drew
            have HJ4 := Lib.hid hJ4
            clear hJ4 c0 c3 c4 c5 HA4 hjn
            go_wp2_with fail
            go_region_held3 (fun wx => wx.cell? ⟨J.b, 0, none⟩ = some (.pointer (some ⟨R.b, 0, none⟩)) ∧ wx.cell? ⟨J.b, 3, none⟩ = some (.int .u32 js.gen) ∧ wx.cell? ⟨J.b, 4, none⟩ = some (.slice lo4 js.recs.length cap4) ∧ wx.cell? ⟨J.b, 5, none⟩ = some (.int .i64 js.en))
              (first | exact HK.out _ hb0 | exact HK.out _ (by assumption) | exact HQ.out _ _ (by assumption))
              (first
                | (go_at_call 50; refine (HH.out _).mono ?_; rintro e wh ⟨rfl, hbh'⟩; have hbh := chain hb0 hbh'; clear hbh')
                | (go_at_call 29; refine (HP.out _ hbh).mono ?_; intro e w5 hp; obtain ⟨rfl, hs5'⟩ := hp.s; have hs5 := hs5'.back hbh; clear hp hs5'))
            all_goals
              have hl5 : (putS st4 (js.en : Int) (headB js.recs.length js.gen s)).no.length = st4.no.length := by
                have h1 := runOps_len [some (js.en, headB js.recs.length js.gen s)] st4
                rwa [runOps_one] at h1
              have hlo5 : (putS st4 (js.en : Int) (headB js.recs.length js.gen s)).lo.length ≤ st4.lo.length + 1 := put_lo
              have HA5 := Lib.hid (RjAt.on (w := w) HJ4.out hb4 hf4 hk4 hs5 hl5)
              have HST := HST2.out
              obtain ⟨st5, hst5⟩ : ∃ x, putS st4 (js.en : Int) (headB js.recs.length js.gen s) = x := ⟨_, rfl⟩
              obtain ⟨e5, he5⟩ : ∃ x, putE st4 (js.en : Int) (headB js.recs.length js.gen s) = x := ⟨_, rfl⟩
              rw [hst5] at HA5 hl5 hlo5
              rw [hst5, he5] at HST
              rw [he5]
              clear HK HQ HH HP HJ4 hs5 hb0 hst5 he5 HST2 hk4
              by_cases hne : e5 = 0
              case neg =>
                rw [if_neg hne] at HST
                have HST := Lib.hid HST
                have hr1 : r = _ := HST.out
                have hEE := HEE.out; have hES := HES.out; have hEJ := HEJ.out
                rw [hr1] at hEE hES hEJ
                simp only at hEE hES hEJ
                rw [if_neg hne] at hEJ
                have HX := Lib.hid (show RjPost base R J a (appS st js s) (appJ st js s) (.int .i64 (appE st js s)) w (.returned (.int .i64 e5)) (w5.setCell ⟨J.b, 6, none⟩ (.bool true)) by
                  rw [hEE, hES, hEJ]
                  exact HA5.out.die.post _)
                obtain ⟨RX, hJX, _, _, _⟩ := HA5.out
                have c6 := hJX.cells.2.2.2.2.2.2
                have f6 := hJX.free 6
                have hxe : (e5 == 0) = false := by simpa using hne
                clear hJX hEE hES hEJ HST hr1 hne
                go_wp2_with fail
                go_ret
                exact HX.out
              subst hne
              rw [if_pos rfl] at HST
              have HST2 := Lib.hid HST
              clear HST
              obtain ⟨R5, hJ5, hb5, hf5, hk5⟩ := HA5.out
              have HS := Lib.hid (hJ5.rp.sync (by omega))
              rw [hb5] at HS
              have c0 := hJ5.cells.1
              rw [hb5] at c0
              have HJ5 := Lib.hid hJ5
              clear hJ5 HA5
              go_wp2_with fail
              refine HS.out.mono ?_
              intro e w6 hp
              obtain ⟨rfl, hs6⟩ := hp.s
              have hl6 : (syncS st5).no.length = st5.no.length := by
                have h1 := runOps_len [none] st5
                rwa [runOps_one] at h1
              have HA6 := Lib.hid (RjAt.on (w := w) HJ5.out hb5 hf5 hk5 hs6 hl6)
              have HST := HST2.out
              obtain ⟨st6, hst6⟩ : ∃ x, syncS st5 = x := ⟨_, rfl⟩
              obtain ⟨e6, he6⟩ : ∃ x, syncE st5 = x := ⟨_, rfl⟩
              rw [hst6] at HA6
              rw [hst6, he6] at HST
              rw [he6]
              clear HS hs6 hp hk5 HJ5 hst6 he6 HST2 c0
              by_cases hne : e6 = 0
              case neg =>
                have HST := Lib.hid HST
                have hr1 : r = _ := HST.out
                have hEE := HEE.out; have hES := HES.out; have hEJ := HEJ.out
                rw [hr1] at hEE hES hEJ
                simp only at hEE hES hEJ
                rw [if_neg hne] at hEJ
                have HX := Lib.hid (show RjPost base R J a (appS st js s) (appJ st js s) (.int .i64 (appE st js s)) w (.returned (.int .i64 e6)) (w6.setCell ⟨J.b, 6, none⟩ (.bool true)) by
                  rw [hEE, hES, hEJ]
                  exact HA6.out.die.post _)
                obtain ⟨RX, hJX, _, _, _⟩ := HA6.out
                have c6 := hJX.cells.2.2.2.2.2.2
                have f6 := hJX.free 6
                have hxe : (e6 == 0) = false := by simpa using hne
                clear hJX hEE hES hEJ HST hr1 hne
                go_wp2_with fail
                go_ret
                exact HX.out
              subst hne
              have hEE := HEE.out; have hES := HES.out; have hEJ := HEJ.out
              rw [HST] at hEE hES hEJ
              simp only [if_true] at hEE hES hEJ
              have HE1 := Lib.hid hEE; have HE2 := Lib.hid hES; have HE3 := Lib.hid hEJ
              clear hEE hES hEJ HST
              obtain ⟨R6, hJ6, hb6, hf6, hk6⟩ := HA6.out
              obtain ⟨lo6, cap6, elv6⟩ := hJ6.form
              obtain ⟨_, _, _, _, c4, c5, _⟩ := hJ6.cells
              have hO6 := hJ6.own
              rw [elv6] at c4 hO6
              have hjl6 := hJ6.lt
              have hbase6 : base ≤ w6.heap.size := hJ6.rp.base_le
              have f4 := hJ6.free 4
              have f5 := hJ6.free 5
              have HPu := Lib.hid (fun w2 (hK : Kept (fun k => some k = (Value.slice lo6 js.recs.length cap6).ownBlock) w6 w2) => hJ6.pushed (elv6 ▸ hK))
              have HJ6 := Lib.hid hJ6
              have HLV := Lib.hid elv6
              have hO6 := Lib.hid hO6
              obtain ⟨i0, hi, hz0, hz1, hz2⟩ := str_info0
              have HI0 := Lib.hid hi; have HZ0 := Lib.hid hz0; have HZ1 := Lib.hid hz1; have HZ2 := Lib.hid hz2
              have hrl : js.recs.length + 1 ≤ 10000 := by omega
              clear hi hz0 hz1 hz2 hJ6 elv6 HA6
              go_wp2_with (first
                | (at_builtin; refine wpList_push Rd.str rfl _ _ 22 rfl base 9 i0 _ 16 Tryd.underlying22 HI0.out HZ0.out HZ1.out HZ2.out rfl (by decide) (fun _ => True) _ js.recs rfl hO6.out [.string s] s _ rfl (by simp) ⟨rfl, hs⟩ (by simp [Value.oneCell']) (by unfold maxLen; omega) (by omega) hbase6 ?_; intro v2 w7 hO2 hK2 hw2; obtain ⟨ao2, cap2, rfl⟩ := hO2.form; obtain ⟨y4, yf4, y5, yf5, ylt⟩ := HPu.out _ hK2)
                | fail)
              have hG := HJ6.out.grow (v2 := .slice ao2 (js.recs ++ [s]).length cap2) (HLV.out ▸ hK2) hO2 (by
                rcases hw2 with e | ⟨g, e, hg⟩
                · exact .inl (by rw [HLV.out]; exact e)
                · exact .inr ⟨g, e, Nat.le_of_lt hg⟩) (nx := js.en + needN s.size) (by unfold needN; omega) hroom
              have HG := Lib.hid hG
              clear hG hO2 hw2 hK2
              go_ret
              rw [HE1.out, HE2.out, HE3.out]
              obtain ⟨G1, G2, G3⟩ := HG.out
              simp only [List.length_append, List.length_singleton, Int.natCast_add] at G1 G2
              have hz6 := hk6.size
              exact ⟨R6, ⟨J.b, .slice ao2 (js.recs.length + 1) cap2⟩, rfl, G1, hb6, rfl,
                fun k hk => by
                  rcases G3 k (by simpa only [List.length_append, List.length_singleton] using hk) with h | h
                  · exact hf6 k h
                  · exact .inr (by omega),
                hk6.trans G2 (fun _ _ h => h) (fun k hk h => by
                  rcases hf6 k h with h | h
                  · exact h
                  · omega)⟩
          · have hr1 : r = (st1, e1) := by
              have h2 := lay_stop st js.en s j (by rw [HI.out]; exact hne) (needN s.size - 1 - j)
              rw [show j + (needN s.size - 1 - j) = needN s.size - 1 by omega, HI.out] at h2
              rw [h2] at HST
              simp only at HST
              rw [if_neg hne] at HST
              exact HST
            subst hr1
            have hxe : (e1 == 0) = false := by simpa using hne
            have hEE := HEE.out; have hES := HES.out; have hEJ := HEJ.out
            simp only at hEE hES hEJ
            rw [if_neg hne] at hEJ
            have HX := Lib.hid (show RjPost base R J a (appS st js s) (appJ st js s) (.int .i64 (appE st js s)) w (.returned (.int .i64 e1)) (wr.setCell ⟨J.b, 6, none⟩ (.bool true)) by
              rw [hEE, hES, hEJ]
              exact hA.out.die.post _)
            obtain ⟨R1, hJ1, _, _, _⟩ := hA.out
            have c6 := hJ1.cells.2.2.2.2.2.2
            have f6 := hJ1.free 6
            clear hJ1 hEE hES hEJ HST
            by_cases hlt : j + 1 < needN s.size
            · have hlti : (j : Int) + 1 < (needN s.size : Int) := by omega
              go_wp2_with fail
              go_ret
              exact HX.out
            · have hlti : ¬ (j : Int) + 1 < (needN s.size : Int) := by omega
              go_wp2_with fail
              go_ret
              exact HX.out
end Go.Proofs.YtaljgcdjkmpljaaDoor

/- The reference's journal: Open. -/
namespace Go.Proofs.YtaljgcdjkmpljaaDoor
open Go.RowKit Lift
set_option linter.unusedSimpArgs false
set_option linter.unusedVariables false

theorem rformat_no {base : Nat} {w : World} {R : RF} {st : St} (h : RP base w R st) (x y : Int) (gen : Nat) (hx : Wf x) (hy : Wf y) (hno : noPlace st x y) :
    Calls Tryd.prog 24 #[.pointer (some ⟨R.b, 0, none⟩), .int .i64 x, .int .i64 y, .int .u32 gen] w (BelowPost (.tuple #[.pointer none, .int .i64 2]) w) := by
  have HF := Lib.hid (fits_ref h x y hx hy)
  rw [decide_eq_false (show ¬ ¬ noPlace st x y from fun h => h hno)] at HF
  clear h hno
  go_enter Tryd.func24, Tryd.ntmps24
  go_wp2_with (first | (go_at_call 48; refine HF.out.mono ?_; rintro e w0 ⟨rfl, rfl⟩) | fail)
  go_ret2
  exact ⟨rfl, Below.refl _ _⟩
theorem ropen_no {base : Nat} {w : World} {R : RF} {st : St} (h : RP base w R st) (x y : Int) (gen : Nat) (hx : Wf x) (hy : Wf y) (hno : noPlace st x y) :
    Calls Tryd.prog 31 #[.pointer (some ⟨R.b, 0, none⟩), .int .i64 x, .int .i64 y, .int .u32 gen] w (BelowPost (.tuple #[.pointer none, .int .i64 2]) w) := by
  have HF := Lib.hid (fits_ref h x y hx hy)
  rw [decide_eq_false (show ¬ ¬ noPlace st x y from fun h => h hno)] at HF
  clear h hno
  go_enter Tryd.func31, Tryd.ntmps31
  go_wp2_with (first | (go_at_call 48; refine HF.out.mono ?_; rintro e w0 ⟨rfl, rfl⟩) | fail)
  go_ret2
  exact ⟨rfl, Below.refl _ _⟩
theorem rj_start {base : Nat} {w : World} {R : RF} {st : St} (hS : RP base w R st) (a sz gen : Nat) (h1 : 2 ≤ sz) (h2 : a + sz ≤ st.no.length) (hg : gen < 4294967296) :
    RJ base (w.alloc (.cells #[.pointer (some ⟨R.b, 0, none⟩), .int .i64 a, .int .i64 sz, .int .u32 gen, .slice none 0 0, .int .i64 a, .bool false] 64)) R st ⟨w.heap.size, .slice none 0 0⟩ a (JSt.new a sz gen) := by
  have hz := hS.base_le
  have hb1 : Below w.heap.size w (w.alloc (.cells #[.pointer (some ⟨R.b, 0, none⟩), .int .i64 a, .int .i64 sz, .int .u32 gen, .slice none 0 0, .int .i64 a, .bool false] 64)) := (Below.refl _ _).alloc (Nat.le_refl _) _
  exact {
    rp := hS.below hb1
    blk := by rw [heap_alloc_new]; unfold rjCells JSt.new; simp
    own := Lift.Own.nil _ _ _ _ _
    bb := hz
    gen := hg
    al := by show a ≤ a + sz; omega
    en := by show a < a + sz; omega
    lim := h2
    len := Nat.zero_le _
    n1 := fun h => by have := hS.inb _ h; simp at this
    n2 := fun k e => by cases e }
theorem allZ_text {d : List UInt8} (hd : d.length = 64) {T : ByteArray} (hT : T = ⟨d.toArray⟩) : (T.toList == (zerB 64).toList) = d.all (· == 0) := by
  rw [str_eq, Bool.eq_iff_iff, decide_eq_true_iff, List.all_eq_true, hT]
  constructor
  · intro h x hx
    have h2 : d = List.replicate 64 0 := by have := congrArg (fun b : ByteArray => b.data.toList) h; simpa [zerB] using this
    rw [h2] at hx
    simpa using List.eq_of_mem_replicate hx
  · intro h
    have : d = List.replicate 64 0 := List.eq_replicate_iff.2 ⟨hd, fun b hb => by simpa using h b hb⟩
    rw [this]; rfl
/-- The journal in Open's loop: so many records are found. -/
structure ROpen (base : Nat) (w : World) (R : RF) (st : St) (jb a : Nat) (js : JSt) (pre : List ByteArray) (en : Nat) (wr : World) : Prop where
  lv : ∃ lv, RJ base wr R st ⟨jb, lv⟩ a { js with recs := pre, en := en } ∧ ∀ k, lv.ownBlock = some k → w.heap.size ≤ k
  kept : Below w.heap.size w wr
  fuel : ∃ f, openL st js = foundL (fun t en => nextRec st.no js.lim js.gen t en) f pre en ∧ f + pre.length = js.lim
set_option maxHeartbeats 8000000 in
set_option maxRecDepth 100000 in
theorem ropen_any {base : Nat} {w : World} {R : RF} {st : St} (h : RP base w R st) (a sz gen : Nat) (h1 : 2 ≤ sz) (h2 : a + sz ≤ st.no.length) (hg : gen < 4294967296) (hlo : st.lo.length ≤ 1000000) :
    Calls Tryd.prog 31 #[.pointer (some ⟨R.b, 0, none⟩), .int .i64 a, .int .i64 sz, .int .u32 gen] w (RMade base R (openR st (JSt.new a sz gen)).1 (openR st (JSt.new a sz gen)).2 a (openJ st (JSt.new a sz gen)) w) := by
  have hbd := h.bd
  have hbase := h.base_le
  have HF := Lib.hid (fits_ref h a sz (Wf.of (by omega) (by omega)) (Wf.of (by omega) (by omega)))
  rw [decide_eq_true (show ¬ noPlace st a sz by unfold noPlace; omega)] at HF
  have c4 := h.offc
  have H := Lib.hid h
  cases ho : st.off with
  | true =>
    rw [ho] at c4
    have e1 : openR st (JSt.new a sz gen) = (st, 12) := by unfold openR; rw [ho]; rfl
    rw [e1]
    clear h e1
    go_enter Tryd.func31, Tryd.ntmps31
    go_wp2_with (first | (go_at_call 48; refine HF.out.mono ?_; rintro e w0 ⟨rfl, rfl⟩) | fail)
    go_ret2
    unfold RMade
    rw [if_neg (by decide)]
    exact ⟨rfl, RpS.refl H.out⟩
  | false =>
    rw [ho] at c4
    have HO := Lib.hid ho
    have e1 : openR st (JSt.new a sz gen) = runOps st (openOps st.no (openL st (JSt.new a sz gen)).2) := by unfold openR; rw [ho]; rfl
    obtain ⟨L, hL⟩ : ∃ L, openL st (JSt.new a sz gen) = L := ⟨_, rfl⟩
    obtain ⟨r, hr⟩ : ∃ r, runOps st (openOps st.no L.2) = r := ⟨_, rfl⟩
    rw [e1, hL, hr]
    have HRR := Lib.hid hr
    have e2 : openJ st (JSt.new a sz gen) = { JSt.new a sz gen with recs := L.1, en := L.2 } := by unfold openJ; rw [hL]
    rw [e2]
    have HL := Lib.hid hL
    clear h e1 e2 ho hL hr
    go_enter Tryd.func31, Tryd.ntmps31
    go_wp2_with (first | (go_at_call 48; refine HF.out.mono ?_; rintro e w0 ⟨rfl, rfl⟩) | fail)
    obtain ⟨W0, hW0⟩ : ∃ W0, w.alloc (.cells #[.pointer (some ⟨R.b, 0, none⟩), .int .i64 a, .int .i64 sz, .int .u32 gen, .slice none 0 0, .int .i64 a, .bool false] 64) = W0 := ⟨_, rfl⟩
    have hJ0 := rj_start H.out a sz gen h1 h2 hg
    have hB0 : Below w.heap.size w W0 := by rw [← hW0]; exact (Below.refl _ _).alloc (Nat.le_refl _) _
    rw [hW0] at hJ0
    have HR0 := Lib.hid (show ROpen base w R st w.heap.size a (JSt.new a sz gen) [] a W0 from ⟨⟨_, hJ0, fun k e => by cases e⟩, hB0, ⟨a + sz, rfl, rfl⟩⟩)
    have hW0' := Lib.hid hW0
    rw [hW0]
    clear hW0 hJ0 hB0 c4 HF
    go_loopw [11, 12] (fun v11 v12 wr => ∃ (pre : List ByteArray) (en : Nat), Hid (ROpen base w R st w.heap.size a (JSt.new a sz gen) pre en wr)) (fun _ _ wr => a + sz - (intOf ((wr.cell? ⟨w.heap.size, 5, none⟩).getD undef)).toNat)
    case atStart => exact ⟨[], a, HR0⟩
    case round =>
      obtain ⟨pre, en, hI⟩ := hrel
      obtain ⟨⟨lv, hJ, hlv⟩, hB, f, hf, hfl⟩ := hI.out
      have HRC := Lib.hid (record_ref hJ HO.out hlo)
      have hen := hJ.en
      have hlim := hJ.lim
      have hjl := hJ.lt
      have hx5 := hJ.cells.2.2.2.2.2.1
      cases hn : nextRec st.no (a + sz) gen pre.length en with
      | none =>
        have HNN := Lib.hid hn
        clear hn
        go_wp2_with fail
        refine HRC.out.mono ?_
        rintro e w1 ⟨t, ok, rfl, hok, _, hb1⟩
        have hok2 : ok = false := by rw [hok]; show (nextRec st.no (a + sz) gen pre.length en).isSome = _; rw [HNN.out]; rfl
        subst hok2
        clear hok
        have hLe : L = (pre, en) := by
          rw [← HL.out, hf]
          exact foundL_none (f := f) HNN.out
        subst hLe
        have hJ1 := hJ.below hb1
        have hB1 := chain hB hb1
        have c5 := hJ1.cells.2.2.2.2.2.1
        simp only at c5
        obtain ⟨d, hd⟩ := some_at (l := st.no) (k := en) (by omega)
        have hdl : d.length = 64 := H.out.good.n64 d (List.mem_of_getElem? hd)
        have hgd : st.no.getD en [] = d := by rw [List.getD_eq_getElem?_getD, hd]; rfl
        have HGE := Lib.hid (getV_at (st := st) en HO.out (by omega))
        rw [hgd] at HGE
        obtain ⟨T, hT⟩ : ∃ T, T = (⟨d.toArray⟩ : ByteArray) := ⟨_, rfl⟩
        rw [← hT] at HGE
        have HZT := Lib.hid (allZ_text hdl hT)
        have HG := Lib.hid (hJ1.rp.get en (by omega))
        rw [HGE.out] at HG
        have HJ1 := Lib.hid hJ1
        have HLV := Lib.hid hlv
        obtain ⟨i0, hi, hz0, hz1, hz2⟩ := info_parts u8_row
        have HI0 := Lib.hid hi; have HZ0 := Lib.hid hz0; have HZ1 := Lib.hid hz1; have HZ2 := Lib.hid hz2
        have hop : openOps st.no en = if d.all (· == 0) then [] else clearOps en := by unfold openOps allZ; rw [hgd]
        have hgl : (JSt.new a sz gen).lim = a + sz := rfl
        clear hi hz0 hz1 hz2 hd hT HGE hJ hJ1 hlv hf hx5 HRC hjl
        cases hall : d.all (· == 0) with
        | true =>
          rw [hall] at hop HZT
          have HOP := Lib.hid hop
          have HZZ := HZT.out
          clear hop hall
          go_wp2_with fail
          refine HG.out.mono ?_
          rintro e w2 ⟨rfl, hb2⟩
          have HJ2 := Lib.hid (HJ1.out.below hb2)
          have hB2 := chain hB1 hb2
          clear HG c5
          go_wp2_with (at_make; refine wpList_make_full _ rfl _ _ 32 rfl w2.heap.size 5 i0 (.int .u8 0) 1 Tryd.underlying32 HI0.out HZ0.out HZ1.out _ _ _ _ 64 rfl rfl rfl rfl (by rw [HZ2.out]; omega) (by unfold maxLen; omega) (Nat.le_refl _) ?_; intro w5 hO5 hg5; have hcv := zeros_text hO5)
          go_ret2
          have hb5 : Below w2.heap.size w2 w5 := (Kept.of_grown hg5).below (Nat.le_refl _) (fun k e => by cases e)
          have hr : r = (st, 0) := by rw [← HRR.out]; show runOps st (openOps st.no en) = _; rw [HOP.out]; rfl
          rw [hr]
          unfold RMade
          rw [if_pos rfl]
          refine ⟨R, _, rfl, HJ2.out.below hb5, rfl, fun k hk => ?_, Kept.of_below (chain hB2 hb5) _⟩
          rcases hk with hk | hk | hk
          · exact .inl hk
          · exact .inr (by rw [hk]; exact Nat.le_refl _)
          · exact .inr (HLV.out k hk.symm)
        | false =>
          rw [hall] at hop HZT
          have HOP := Lib.hid hop
          have HZZ := HZT.out
          clear hop hall
          go_wp2_with fail
          refine HG.out.mono ?_
          rintro e w2 ⟨rfl, hb2⟩
          have HJ2 := Lib.hid (HJ1.out.below hb2)
          have hB2 := chain hB1 hb2
          clear HG c5
          go_wp2_with (at_make; refine wpList_make_full _ rfl _ _ 32 rfl w2.heap.size 5 i0 (.int .u8 0) 1 Tryd.underlying32 HI0.out HZ0.out HZ1.out _ _ _ _ 64 rfl rfl rfl rfl (by rw [HZ2.out]; omega) (by unfold maxLen; omega) (Nat.le_refl _) ?_; intro w5 hO5 hg5; have hcv := zeros_text hO5; have hb5 : Below w2.heap.size w2 w5 := (Kept.of_grown hg5).below (Nat.le_refl _) (fun k e => by cases e); have c5 := (HJ2.out.below hb5).cells.2.2.2.2.2.1; simp only at c5)
          have hJ5 := HJ2.out.below hb5
          have hB5 := chain hB2 hb5
          have HP := Lib.hid (hJ5.rp.put en ⟨#[]⟩ (by decide) (Wf.of (by omega) (by omega)) (by omega))
          have hr : r = if putE st en ⟨#[]⟩ = 0 then (syncS (putS st en ⟨#[]⟩), syncE (putS st en ⟨#[]⟩)) else (putS st en ⟨#[]⟩, putE st en ⟨#[]⟩) := by rw [← HRR.out, ← clear_ops]; show runOps st (openOps st.no en) = _; rw [HOP.out]; rfl
          have hlr := runOps_len (openOps st.no en) st
          rw [show runOps st (openOps st.no en) = r from HRR.out] at hlr
          have hlo2 : (putS st en ⟨#[]⟩).lo.length ≤ st.lo.length + 1 := put_lo
          obtain ⟨st1, hst1⟩ : ∃ x, putS st en ⟨#[]⟩ = x := ⟨_, rfl⟩
          obtain ⟨e1, he1⟩ : ∃ x, putE st en ⟨#[]⟩ = x := ⟨_, rfl⟩
          rw [hst1, he1] at HP hr
          rw [hst1] at hlo2
          have HJ5 := Lib.hid hJ5
          have HRX := Lib.hid hr
          have HLR := Lib.hid hlr
          clear hst1 he1 hJ5 hr hlr hO5 hg5 hcv
          go_wp2_with fail
          refine HP.out.mono ?_
          intro e w6 hp
          obtain ⟨rfl, hs6⟩ := hp.s
          have HS6 := Lib.hid (hs6.back (w := w) hB5)
          by_cases h0 : e1 = 0
          · subst h0
            have hr2 := HRX.out
            rw [if_pos rfl] at hr2
            obtain ⟨R6, hR6, hb6, hf6, hk6⟩ := hs6
            have HS := Lib.hid (hR6.sync (by omega))
            rw [hb6] at HS
            have HON := Lib.hid (fun (st2 : St) (w2 : World) (h : RpS base R6 st2 w6 w2) => RpS.on hb6 hf6 hk6 h)
            have HR2 := Lib.hid hr2
            clear hr2 hp HP hR6 hf6 hk6 c5
            go_wp2_with fail
            refine HS.out.mono ?_
            intro e w7 hp
            obtain ⟨rfl, hs7⟩ := hp.s
            have HS7 := Lib.hid (HON.out _ w7 hs7)
            obtain ⟨e2, he2⟩ : ∃ x, syncE st1 = x := ⟨_, rfl⟩
            rw [he2]
            have HE2 := Lib.hid he2
            clear HS hs7 hp HON hb6 he2
            by_cases h0 : e2 = 0
            · subst h0
              go_wp2_with fail
              go_ret2
              rw [HR2.out]
              show RMade base R (syncS st1) (syncE st1) a _ w _ w7
              rw [HE2.out]
              unfold RMade
              rw [if_pos rfl]
              obtain ⟨R7, hR7, hb7, hf7, hk7⟩ := HS7.out
              have hl7 : (syncS st1).no.length = st.no.length := by have := HLR.out; rw [HR2.out] at this; exact this
              refine ⟨R7, _, rfl, HJ5.out.plate hR7 hb7 hf7 hk7 hl7, hb7, fun k hk => ?_, ?_⟩
              · rcases hk with hk | hk | hk
                · exact (hf7 k hk).imp id (fun h => by have := hB5.size; omega)
                · exact .inr (by rw [hk]; exact Nat.le_refl _)
                · exact .inr (HLV.out k hk.symm)
              · exact (Kept.of_below hB5 (fun _ => False)).trans hk7 (fun _ _ h => h.elim) (fun _ _ h => h)
            · have hx : (e2 == 0) = false := by simpa using h0
              go_wp2_with fail
              go_ret2
              rw [HR2.out]
              show RMade base R (syncS st1) (syncE st1) a _ w _ w7
              rw [HE2.out]
              unfold RMade
              rw [if_neg h0]
              exact ⟨rfl, HS7.out.back hB5⟩
          · have hx : (e1 == 0) = false := by simpa using h0
            clear HP hp hs6
            go_wp2_with fail
            go_ret2
            have hr2 := HRX.out
            rw [if_neg h0] at hr2
            rw [hr2]
            unfold RMade
            rw [if_neg h0]
            exact ⟨rfl, HS6.out⟩
      | some t0 =>
        have HNN := Lib.hid hn
        clear hn
        go_wp2_with fail
        refine HRC.out.mono ?_
        rintro e w1 ⟨t, ok, rfl, hok, hokt, hb1⟩
        have hok2 : ok = true := by rw [hok]; show (nextRec st.no (a + sz) gen pre.length en).isSome = _; rw [HNN.out]; rfl
        subst hok2
        obtain rfl : t0 = t := by
          have h2 : nextRec st.no (a + sz) gen pre.length en = some t := hokt rfl
          rw [HNN.out] at h2
          injection h2
        clear hok hokt
        have hns := nextRec_some H.out.good.n64 (show a + sz ≤ st.no.length from h2) HNN.out
        obtain ⟨hsz1, hnx, -, -, -⟩ := hns
        have hplen := hJ.len
        simp only at hplen
        have hgl : (JSt.new a sz gen).lim = a + sz := rfl
        obtain ⟨f1, rfl⟩ : ∃ f1, f = f1 + 1 := by
          cases f with
          | zero => exfalso; have hen2 : en < a + sz := hen; rw [hgl] at hfl; simp at hfl; omega
          | succ f => exact ⟨f, rfl⟩
        have hfs := foundL_some (nx := fun t en => nextRec st.no (a + sz) gen t en) (f := f1) (en := en) (l := pre) HNN.out
        have HFS := Lib.hid (show openL st (JSt.new a sz gen) = foundL (fun t en => nextRec st.no (a + sz) gen t en) f1 (pre ++ [t0]) (en + needN t0.size) from hf.trans hfs)
        have hJ1 := hJ.below hb1
        have hB1 := chain hB hb1
        obtain ⟨lo4, cap4, elv⟩ := hJ.form
        simp only at elv
        subst elv
        obtain ⟨_, _, _, _, c4, c5, _⟩ := hJ1.cells
        have hO1 := Lib.hid (show Lift.Own Rd.str (fun _ => True) w1 base 9 (.slice lo4 pre.length cap4) pre from hJ1.own)
        have hjl1 := hJ1.lt
        have hbase1 : base ≤ w1.heap.size := hJ1.rp.base_le
        have f4 := hJ1.free 4
        have f5 := hJ1.free 5
        simp only at c4 c5 f4 f5 hjl1
        have HPu := Lib.hid (fun w2 (hK : Kept (fun k => some k = (Value.slice lo4 pre.length cap4).ownBlock) w1 w2) => show w2.cell? ⟨w.heap.size, 4, none⟩ = some (.slice lo4 pre.length cap4) ∧ w2.frozen? ⟨w.heap.size, 4, none⟩ = false ∧ w2.cell? ⟨w.heap.size, 5, none⟩ = some (.int .i64 en) ∧ w2.frozen? ⟨w.heap.size, 5, none⟩ = false ∧ w.heap.size < w2.heap.size from hJ1.pushed hK)
        have HJ1 := Lib.hid hJ1
        have HLV := Lib.hid hlv
        obtain ⟨i0, hi, hz0, hz1, hz2⟩ := str_info0
        have HI0 := Lib.hid hi; have HZ0 := Lib.hid hz0; have HZ1 := Lib.hid hz1; have HZ2 := Lib.hid hz2
        have hrl : pre.length + 1 ≤ 10000 := by omega
        have HN := Lib.hid (show ∀ w1, Calls Tryd.prog 25 #[.int .i64 t0.size] w1 (fun e w' => e = .returned (.int .i64 (needN t0.size)) ∧ w' = w1) from fun w1 => by
          rw [← needI_nat hsz1]
          exact (rneed_any t0.size (Wf.of (by omega) (by omega)) w1).mono fun _ _ ⟨a, b⟩ => ⟨a, b.symm⟩)
        have hnd : needN t0.size ≤ 20000 := by unfold needN; omega
        have hen8 : en ≤ 8192 := by omega
        have HX5W := Lib.hid hx5
        have HFL := Lib.hid (show f1 + (pre ++ [t0]).length = (JSt.new a sz gen).lim by rw [← hfl]; simp; omega)
        clear hfl hgl hi hz0 hz1 hz2 hJ1 hJ hlv hf hfs hx5 HRC hjl hB hb1
        go_wp2_with (first
          | (at_builtin; refine wpList_push Rd.str rfl _ _ 22 rfl base 9 i0 _ 16 Tryd.underlying22 HI0.out HZ0.out HZ1.out HZ2.out rfl (by decide) (fun _ => True) _ pre rfl hO1.out [.string t0] t0 _ rfl (by simp) ⟨rfl, by unfold maxTx; omega⟩ (by simp [Value.oneCell']) (by unfold maxLen; omega) (by omega) hbase1 ?_; intro v2 w7 hO2 hK2 hw2; obtain ⟨ao2, cap2, rfl⟩ := hO2.form; obtain ⟨y4, yf4, y5, yf5, ylt⟩ := HPu.out _ hK2)
          | fail)
        have hwz : w.heap.size ≤ w1.heap.size := hB1.size
        have hG := HJ1.out.grow (v2 := .slice ao2 (pre ++ [t0]).length cap2) (s := t0) hK2 hO2 (by
          rcases hw2 with e | ⟨g, e, hg⟩
          · exact .inl e
          · exact .inr ⟨g, e, Nat.le_of_lt hg⟩) (nx := en + needN t0.size) (by show en < en + needN t0.size; unfold needN; omega) (by show en + needN t0.size < a + sz; omega)
        have hown : ∀ k, (Value.slice ao2 (pre ++ [t0]).length cap2).ownBlock = some k → w.heap.size ≤ k := fun k hk => by
          rcases hw2 with e | ⟨g, e, hg⟩
          · exact HLV.out k (Eq.trans (Eq.symm e) hk)
          · rw [e] at hk; cases hk; omega
        have hBK : Below w.heap.size w w7 := hB1.trans (hK2.below (by omega) (fun k e => HLV.out k e.symm))
        have HRO := Lib.hid (show ROpen base w R st w.heap.size a (JSt.new a sz gen) (pre ++ [t0]) (en + needN t0.size) (((w7.setCell ⟨w.heap.size, 4, none⟩ (.slice ao2 (pre ++ [t0]).length cap2)).setCell ⟨w.heap.size, 5, none⟩ (.int .i64 ((en + needN t0.size : Nat) : Int))).drew) from
          ⟨⟨_, hG.1.below (Below.refl _ _).drew, hown⟩, ((hBK.setCell (Nat.le_refl _) _).setCell (Nat.le_refl _) _).drew, ⟨f1, HFS.out, HFL.out⟩⟩)
        have HX5 := Lib.hid (show (((w7.setCell ⟨w.heap.size, 4, none⟩ (.slice ao2 (pre ++ [t0]).length cap2)).setCell ⟨w.heap.size, 5, none⟩ (.int .i64 ((en + needN t0.size : Nat) : Int))).drew).cell? ⟨w.heap.size, 5, none⟩ = some (.int .i64 ((en + needN t0.size : Nat) : Int)) from (hG.1.below (Below.refl _ _).drew).cells.2.2.2.2.2.1)
        have hwr : IntKind.i64.wrap ((en : Int) + (needN t0.size : Int)) = (en : Int) + (needN t0.size : Int) := by rw [IntKind.wrap_i64]; omega
        clear hG hown hBK hO2 hw2 hK2
        go_region_with (go_at_call 25; refine (HN.out _).mono ?_; rintro e wn ⟨rfl, rfl⟩)
        all_goals
          go_roundw
          case measure =>
            have e2 := HX5W.out
            have e1 := HX5.out
            simp [hwr] at e1 e2 ⊢
            rw [e1, e2]
            have hp : 0 < needN t0.size := by unfold needN; omega
            have hnx' : en + needN t0.size + 1 ≤ a + sz := hnx
            simp [intOf]
            omega
          case rel =>
            (repeat apply Exists.intro)
            exact ⟨⟨pre ++ [t0], en + needN t0.size, by simpa [hwr] using HRO⟩, rfl⟩
end Go.Proofs.YtaljgcdjkmpljaaDoor
