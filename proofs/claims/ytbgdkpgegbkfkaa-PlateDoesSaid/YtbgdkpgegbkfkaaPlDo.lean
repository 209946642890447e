/- Do: a call of both. -/
import Derived.Test.YtbgdkpgegbkfkaaPlRel
import Derived.Deep.RegionHeld3
namespace Go.Proofs.Ytbgdkpgegbkfkaa
open Go.RowKit Lift
set_option linter.unusedSimpArgs false
set_option linter.unusedVariables false

section
variable {base : Nat} {w : World} {O : Nat → Prop} {ab rb : Nat} {st : St} {rs : RSt}
theorem mem_put (h : Mem base w O ab st rb rs) (x : Int) (s : ByteArray) (hs : s.size ≤ maxTx) (hll : st.lo.length ≤ 1000000000) :
    Calls Try.prog 8 #[.pointer (some ⟨ab, 0, none⟩), .int .i64 x, .string s] w (MemV base O ab (putS st x s) rb rs (.int .i64 (putE st x s)) w) :=
  h.stepA fun F hF e _ => by subst e; exact put_any hF x s hs hll
theorem mem_sync (h : Mem base w O ab st rb rs) (hll : st.lo.length ≤ 1000000000) :
    Calls Try.prog 9 #[.pointer (some ⟨ab, 0, none⟩)] w (MemV base O ab (syncS st) rb rs (.int .i64 (syncE st)) w) :=
  h.stepA fun F hF e _ => by subst e; exact sync_any hF hll
theorem mem_fuse (h : Mem base w O ab st rb rs) (n : Int) (hn : Wf n) :
    Calls Try.prog 19 #[.pointer (some ⟨ab, 0, none⟩), .int .i64 n] w (MemV base O ab { st with fu := max n (-1) } rb rs (.tuple #[]) w) :=
  h.stepA fun F hF e _ => by
    subst e
    have := int_i64 hn
    exact (fuse_any hF n this.1 this.2).mono fun e w' h => h.pl rfl (fun k h => h)
theorem mem_crash {w4 : World} (h : Mem base w4 O ab st rb rs) (hb : Below w4.heap.size w4 w) (hll : st.lo.length ≤ 1000000000) (ko : Option Addr) (kcap : Nat) (keep : List Int) (n : Nat) (hn : n = keep.length) (hkl : keep.length ≤ 9223372036854775807) (hk : SlAt (Rd.int .i64) (fun k => w4.heap.size ≤ k) w ko keep) :
    Calls Try.prog 10 #[.pointer (some ⟨ab, 0, none⟩), .slice ko n kcap] w (MemV base O ab (crashS st keep) rb rs (.tuple #[]) w) := by
  subst hn
  obtain ⟨F, R, e1, e2, h1, h2, h3, h4⟩ := h
  have r1 := h1.below hb
  have r2 := h2.below hb
  have hk2 : SlAt (Rd.int .i64) (fun b => ¬ foot F b) w ko keep := hk.mono (fun k hk _ hf => by have := h1.inb k hf; omega)
  subst e1
  refine (crash_any r1 hll ko kcap keep hkl hk2).mono ?_
  rintro e w' ⟨he, hR, hK⟩
  exact ⟨he, ⟨_, R, by rfl, e2, hR, r2.kept hK (fun k a b => h3 k b a), fun k a b => h3 k (foot_nil k a) b, fun k hO => ⟨fun a => (h4 k hO).1 (foot_nil k a), (h4 k hO).2.1, Nat.lt_of_lt_of_le (Nat.lt_of_lt_of_le (h4 k hO).2.2 hb.size) hK.size⟩⟩,
    hK.wide (fun k _ hfk => ⟨h1.ge k hfk, fun hO => (h4 k hO).1 hfk⟩)⟩
theorem rem_put (h : Mem base w O ab st rb rs) (hn : rs.fz = true → 0 ≤ rs.n) (x : Int) (s : ByteArray) (hs : s.size ≤ maxTx) (hx : Wf x) (hll : rs.L.length ≤ 1000000000) :
    Calls Try.prog 27 #[.pointer (some ⟨rb, 0, none⟩), .int .i64 x, .string s] w (MemV base O ab st rb (rputS rs x s) (.int .i64 (errP rs x s)) w) :=
  h.stepR fun R hR e => by subst e; exact put_plate_ref hR hn x s hs hx hll
theorem rem_sync (h : Mem base w O ab st rb rs) (hn : rs.fz = true → 0 ≤ rs.n) (hll : rs.L.length ≤ 1000000000) :
    Calls Try.prog 28 #[.pointer (some ⟨rb, 0, none⟩)] w (MemV base O ab st rb (rsyncS rs) (.int .i64 (rsyncE rs)) w) :=
  h.stepR fun R hR e => by subst e; exact sync_ref hR hn hll
theorem rem_fuse (h : Mem base w O ab st rb rs) (n : Int) (hn : Wf n) :
    Calls Try.prog 29 #[.pointer (some ⟨rb, 0, none⟩), .int .i64 n] w (MemV base O ab st rb { rs with fz := decide (0 ≤ n), n := n } (.tuple #[]) w) :=
  h.stepR fun R hR e => by subst e; exact fuse_ref hR n hn
theorem rem_crash (h : Mem base w O ab st rb rs) (hll : rs.L.length ≤ 1000000000) (ko : Option Addr) (kcap : Nat) (keep : List Int) (hkl : keep.length ≤ 9223372036854775807) (hk : SlAt (Rd.int .i64) (· < base) w ko keep) :
    Calls Try.prog 30 #[.pointer (some ⟨rb, 0, none⟩), .slice ko keep.length kcap] w (MemV base O ab st rb (rcrashS rs keep) (.tuple #[]) w) :=
  h.stepR fun R hR e => by
    have hk2 : SlAt (Rd.int .i64) (fun b => ¬ rfoot R b) w ko keep := hk.mono (fun k hk _ hf => by have := hR.ge k hf; omega)
    subst e
    exact crash_ref hR hll ko kcap keep hkl hk2
theorem mem_get (h : Mem base w O ab st rb rs) (x : Int) : Calls Try.prog 11 #[.pointer (some ⟨ab, 0, none⟩), .int .i64 x] w (fun e w' => e = .returned (getV st x) ∧ w = w') := pl_get h.pl x
theorem rem_get (h : Mem base w O ab st rb rs) (hR : Rel st rs) (x : Int) (hll : rs.L.length ≤ 1000000000) : Calls Try.prog 31 #[.pointer (some ⟨rb, 0, none⟩), .int .i64 x] w (BelowPost (getV st x) w) := by
  obtain ⟨R, rfl, h2⟩ := h.rf
  rw [← hR.get]
  exact get_ref h2 x hll
theorem rem_image (h : Mem base w O ab st rb rs) (hR : Rel st rs) (hll : rs.L.length ≤ 1000000000) : Calls Try.prog 17 #[.pointer (some ⟨rb, 0, none⟩)] w (StrPost (imageB st.no) w) := by
  obtain ⟨R, rfl, h2⟩ := h.rf
  rw [← hR.no]
  exact image_ref h2 hll
theorem mem_image (h : Mem base w O ab st rb rs) : Calls Try.prog 15 #[.pointer (some ⟨ab, 0, none⟩)] w (StrPost (imageB st.no) w) := pl_image h.pl
theorem mem_loose (h : Mem base w O ab st rb rs) (hR : Rel st rs) : Calls Try.prog 32 #[.pointer (some ⟨ab, 0, none⟩)] w (fun e w' => e = .returned (.int .i64 (rs.L.length : Int)) ∧ w' = w) := by
  obtain ⟨F, R, rfl, e2, h1, h2, h3, h4⟩ := h
  have e : st.lo.length = rs.L.length := by rw [hR.lo, List.length_map]
  rw [← e]
  exact (loose_any h1).mono fun _ _ ⟨a, b⟩ => ⟨a, b.symm⟩
theorem mem_size (h : Mem base w O ab st rb rs) : Calls Try.prog 33 #[.pointer (some ⟨ab, 0, none⟩)] w (fun e w' => e = .returned (.int .i64 (st.no.length : Int)) ∧ w' = w) := by
  obtain ⟨F, R, rfl, e2, h1, h2, h3, h4⟩ := h
  exact (size_any h1).mono fun _ _ ⟨a, b⟩ => ⟨a, b.symm⟩
theorem rem_size (h : Mem base w O ab st rb rs) (hR : Rel st rs) : Calls Try.prog 34 #[.pointer (some ⟨rb, 0, none⟩)] w (fun e w' => e = .returned (.int .i64 (st.no.length : Int)) ∧ w' = w) := by
  obtain ⟨R, rfl, h2⟩ := h.rf
  rw [← hR.len]
  exact (size_ref h2).mono fun _ _ ⟨a, b⟩ => ⟨a, b.symm⟩
theorem mem_down (h : Mem base w O ab st rb rs) (hR : Rel st rs) : Calls Try.prog 20 #[.pointer (some ⟨ab, 0, none⟩)] w (fun e w' => e = .returned (.bool rs.off) ∧ w' = w) := by
  obtain ⟨F, R, rfl, e2, h1, h2, h3, h4⟩ := h
  rw [hR.off]
  exact (down_any h1).mono fun _ _ ⟨a, b⟩ => ⟨a, b.symm⟩
theorem rem_put2 {st0 : St} (h : Mem base w O ab st rb rs) (hR : Rel st0 rs) (x : Int) (s : ByteArray) (hs : s.size ≤ maxTx) (hx : Wf x) (hll : rs.L.length ≤ 1000000000) :
    Calls Try.prog 27 #[.pointer (some ⟨rb, 0, none⟩), .int .i64 x, .string s] w (MemV base O ab st rb (rputS rs x s) (.int .i64 (putE st0 x s)) w) := by
  have := rem_put h hR.pos x s hs hx hll
  rwa [(hR.put x s).1] at this
theorem rem_sync2 {st0 : St} (h : Mem base w O ab st rb rs) (hR : Rel st0 rs) (hll : rs.L.length ≤ 1000000000) :
    Calls Try.prog 28 #[.pointer (some ⟨rb, 0, none⟩)] w (MemV base O ab st rb (rsyncS rs) (.int .i64 (syncE st0)) w) := by
  have := rem_sync h hR.pos hll
  rwa [hR.sync.1] at this
theorem rf_cells (h : Mem base w O ab st rb rs) : ∃ lo lcap, w.cell? ⟨rb, 1, none⟩ = some (.slice lo rs.L.length lcap) ∧ w.cell? ⟨rb, 4, none⟩ = some (.bool rs.off) := by
  obtain ⟨R, rfl, h2⟩ := h.rf
  obtain ⟨_, c1, _, _, c4⟩ := h2.cells
  obtain ⟨ao, cap, e⟩ := h2.own2.form
  rw [e] at c1
  exact ⟨ao, cap, c1, c4⟩
end
theorem mem_getE {base : Nat} {w : World} {O : Nat → Prop} {ab rb : Nat} {st : St} {rs : RSt} {x : Int} {v : Value} (h : Mem base w O ab st rb rs) (e : getV st x = v) : Calls Try.prog 11 #[.pointer (some ⟨ab, 0, none⟩), .int .i64 x] w (fun e w' => e = .returned v ∧ w = w') := by
  subst e; exact mem_get h x
theorem rem_getE {base : Nat} {w : World} {O : Nat → Prop} {ab rb : Nat} {st : St} {rs : RSt} {x : Int} {v : Value} (h : Mem base w O ab st rb rs) (hR : Rel st rs) (hll : rs.L.length ≤ 1000000000) (e : getV st x = v) : Calls Try.prog 31 #[.pointer (some ⟨rb, 0, none⟩), .int .i64 x] w (BelowPost v w) := by
  subst e; exact rem_get h hR x hll
def fuseS (st : St) (n : Int) : St := { st with fu := max n (-1) }
def rfuseS (rs : RSt) (n : Int) : RSt := { rs with fz := decide (0 ≤ n), n := n }
theorem Rel.fuse2 {st : St} {rs : RSt} (h : Rel st rs) (n : Int) : Rel (fuseS st n) (rfuseS rs n) := h.fuse n
theorem mem_fuse2 {base : Nat} {w : World} {O : Nat → Prop} {ab rb : Nat} {st : St} {rs : RSt} (h : Mem base w O ab st rb rs) (n : Int) (hn : Wf n) :
    Calls Try.prog 19 #[.pointer (some ⟨ab, 0, none⟩), .int .i64 n] w (MemV base O ab (fuseS st n) rb rs (.tuple #[]) w) := mem_fuse h n hn
theorem rem_fuse2 {base : Nat} {w : World} {O : Nat → Prop} {ab rb : Nat} {st : St} {rs : RSt} (h : Mem base w O ab st rb rs) (n : Int) (hn : Wf n) :
    Calls Try.prog 29 #[.pointer (some ⟨rb, 0, none⟩), .int .i64 n] w (MemV base O ab st rb (rfuseS rs n) (.tuple #[]) w) := rem_fuse h n hn
theorem int_row2 : (Try.prog.info? 3).map (fun i => (i.zero, i.size, i.bytes)) = some (some (.int .i64 0), 1, 8) := by kernel_rfl
theorem int_flat : Flat (Rd.int .i64) := fun _ _ _ _ _ _ h => h
theorem int_ones : ∀ S w cs c, (Rd.int .i64).rel S w cs c → ∀ u ∈ cs, u.oneCell' = true := by
  rintro S w cs c ⟨rfl, _⟩ u hu
  simp at hu; subst hu; rfl
theorem Rel.lrle {st : St} {rs : RSt} (h : Rel st rs) {n : Nat} (h1 : st.lo.length ≤ n + 1) (h2 : n ≤ 1000000) : rs.L.length ≤ 1000000000 := by
  have : st.lo.length = rs.L.length := by rw [h.lo, List.length_map]
  omega
def BoxC (w : World) (tb : Nat) (c : Op4) (ko : Option Addr) (kcap : Nat) : Prop :=
  w.cell? ⟨tb, 0, none⟩ = some (.int .i64 c.1) ∧ w.cell? ⟨tb, 1, none⟩ = some (.int .i64 c.2.1) ∧ w.cell? ⟨tb, 2, none⟩ = some (.string c.2.2.1) ∧ w.cell? ⟨tb, 3, none⟩ = some (.slice ko c.2.2.2.length kcap)
theorem BoxC.kept {w w' : World} {tb : Nat} {c : Op4} {ko : Option Addr} {kcap : Nat} {X : Nat → Prop} (h : BoxC w tb c ko kcap) (hk : Kept X w w') (hx : ¬ X tb) (hlt : tb < w.heap.size) : BoxC w' tb c ko kcap :=
  ⟨(hk.cell (p := ⟨tb, 0, none⟩) hlt hx).trans h.1, (hk.cell (p := ⟨tb, 1, none⟩) hlt hx).trans h.2.1, (hk.cell (p := ⟨tb, 2, none⟩) hlt hx).trans h.2.2.1, (hk.cell (p := ⟨tb, 3, none⟩) hlt hx).trans h.2.2.2⟩
def DoPost (base : Nat) (O : Nat → Prop) (ab : Nat) (st : St) (rb : Nat) (w : World) (e : Ending) (w' : World) : Prop :=
  ∃ st' rs', e = .returned (.bool true) ∧ Rel st' rs' ∧ st'.lo.length ≤ st.lo.length + 1 ∧ Mem base w' O ab st' rb rs' ∧ Kept (Free base O) w w'
theorem kept2 {base : Nat} {O : Nat → Prop} {a b c : World} (h : Kept (Free base O) a b) (k : Kept (Free base O) b c) : Kept (Free base O) a c := h.trans k (fun _ _ h => h) (fun _ _ h => h)
theorem do_end {base : Nat} {w w0 w' : World} {O : Nat → Prop} {ab rb : Nat} {st st' : St} {rs' : RSt} {ob : Obj} (hw0 : w.alloc ob = w0) (hM : Mem base w' (fun k => O k ∨ k = w.heap.size) ab st' rb rs') (hK : Kept (Free base (fun k => O k ∨ k = w.heap.size)) w0 w') (hR : Rel st' rs') (hlo : st'.lo.length ≤ st.lo.length + 1) :
    DoPost base O ab st rb w (.returned (.bool true)) w' := by
  subst hw0
  refine ⟨st', rs', rfl, hR, hlo, hM.less (fun k h => .inl h), ?_⟩
  exact (Kept.alloc (fun _ => False) w ob).trans hK (fun _ _ h => h.elim) (fun k _ h => ⟨h.1, fun ho => h.2 (.inl ho)⟩)
theorem put_lo {st : St} {x : Int} {s : ByteArray} : (putS st x s).lo.length ≤ st.lo.length + 1 := by
  unfold putS
  split
  · split
    · omega
    · split
      · show ((burnS st).lo ++ _).length ≤ _
        rw [burnS_same.2.2]; simp
      · rw [burnS_same.2.2]; omega
  · omega
theorem sync_lo {st : St} : (syncS st).lo.length ≤ st.lo.length + 1 := by
  unfold syncS
  split
  · omega
  · split
    · simp
    · rw [burnS_same.2.2]; omega
set_option maxHeartbeats 8000000 in
set_option maxRecDepth 100000 in
theorem do_any {base : Nat} {w : World} {O : Nat → Prop} {ab rb : Nat} {st : St} {rs : RSt} (h : Mem base w O ab st rb rs) (hR : Rel st rs) (hlo : st.lo.length ≤ 1000000) (c : Op4) (ko : Option Addr) (kcap : Nat) (hc1 : Wf c.2.1) (hs : c.2.2.1.size ≤ maxTx) (hkl : c.2.2.2.length ≤ 200) (hnone : ko = none → kcap = 0)
    (hk : SlAt (Rd.int .i64) (· < base) w ko c.2.2.2) :
    Calls Try.prog 18 #[.pointer (some ⟨ab, 0, none⟩), .pointer (some ⟨rb, 0, none⟩), .agg #[.int .i64 c.1, .int .i64 c.2.1, .string c.2.2.1, .slice ko c.2.2.2.length kcap]] w (DoPost base O ab st rb w) := by
  have hll : st.lo.length ≤ 1000000000 := by omega
  have hlr : rs.L.length ≤ 1000000000 := by have : st.lo.length = rs.L.length := by rw [hR.lo, List.length_map]
                                            omega
  obtain ⟨W0, hW0⟩ : ∃ W0, w.alloc (.cells #[.int .i64 c.1, .int .i64 c.2.1, .string c.2.2.1, .slice ko c.2.2.2.length kcap] 38) = W0 := ⟨_, rfl⟩
  have hb0 : Below w.heap.size w W0 := by rw [← hW0]; exact (Below.refl _ _).alloc (Nat.le_refl _) _
  have hs0 : W0.heap.size = w.heap.size + 1 := by rw [← hW0]; simp
  have htb : w.heap.size < W0.heap.size := by omega
  have HM0 := Lib.hid (h.more (O' := fun k => O k ∨ k = w.heap.size) hb0 (fun k hk => hk.imp id (fun e => by omega)))
  have hbox : BoxC W0 w.heap.size c ko kcap := by rw [← hW0]; exact ⟨by simp [go_sem], by simp [go_sem], by simp [go_sem], by simp [go_sem]⟩
  have HB := Lib.hid (show ∀ w', Kept (Free base (fun k => O k ∨ k = w.heap.size)) W0 w' → BoxC w' w.heap.size c ko kcap from fun w' hk => hbox.kept hk (fun h => h.2 (.inr rfl)) (by omega))
  have HR := Lib.hid hR
  have HW0 := Lib.hid hW0
  have HBL := Lib.hid (show ∀ w', Kept (Free base (fun k => O k ∨ k = w.heap.size)) W0 w' → SlAt (Rd.int .i64) (· < base) w' ko c.2.2.2 from fun w' hk2 =>
    ((hk.below hb0).kept hk2 (fun k hk _ hf => by have := hf.1; omega)))
  obtain ⟨b0, b1, b2, b3⟩ := hbox
  have hK0 := Kept.refl (Free base (fun k => O k ∨ k = w.heap.size)) W0
  clear hs0 h hR hk
  by_cases h0 : c.1 = 0
  · have hd0 : (c.1 == 0) = true := by simpa using h0
    have hp := HR.out.put c.2.1 c.2.2.1
    have HP := Lib.hid hp.2
    clear hp h0
    go_enter Try.func18, Try.ntmps18
    go_wp2_with fail
    have HK1 := Lib.hid (show Kept (Free base (fun k => O k ∨ k = w.heap.size)) W0 W0.drew from hK0.step (Below.refl _ _).drew)
    have HMd := Lib.hid (HM0.out.below (Below.refl _ W0).drew)
    go_region_held3 (fun w' => w'.cell? ⟨w.heap.size, 1, none⟩ = some (.int .i64 c.2.1) ∧ w'.cell? ⟨w.heap.size, 2, none⟩ = some (.string c.2.2.1))
      (first | exact ⟨(HB.out _ HK1.out).2.1, (HB.out _ HK1.out).2.2.1⟩ | exact ⟨(HB.out _ (kept2 HK1.out hK2)).2.1, (HB.out _ (kept2 HK1.out hK2)).2.2.1⟩ | exact ⟨(HB.out _ (kept2 HK1.out (kept2 hK2 hK3))).2.1, (HB.out _ (kept2 HK1.out (kept2 hK2 hK3))).2.2.1⟩)
      (first
        | (go_at_call 8; refine (mem_put HMd.out c.2.1 c.2.2.1 hs hll).mono ?_; rintro e w2 ⟨rfl, hM2, hK2⟩)
        | (go_at_call 27; refine (rem_put2 hM2 HR.out c.2.1 c.2.2.1 hs hc1 hlr).mono ?_; rintro e w3 ⟨rfl, hM3, hK3⟩))
    have hK9 := kept2 HK1.out (kept2 hK2 hK3)
    have HR9 := Lib.hid HP.out
    have hlo9 := put_lo (st := st) (x := c.2.1) (s := c.2.2.1)
    generalize putS st c.2.1 c.2.2.1 = st9 at *
    generalize rputS rs c.2.1 c.2.2.1 = rs9 at *
    clear HP hM2 hK2 hK3
    obtain ⟨q0, q1, q2, q3⟩ := HB.out _ hK9
    obtain ⟨lo, lcap, z1, z4⟩ := rf_cells hM3
    obtain ⟨x9, e9, hgv⟩ : ∃ x9 e9, getV st9 c.2.1 = .tuple #[.string x9, .int .i64 e9] := by unfold getV; split <;> exact ⟨_, _, rfl⟩
    have HGV := Lib.hid hgv
    have hlr9 : rs9.L.length ≤ 1000000000 := HR9.out.lrle hlo9 hlo
    have HM3 := Lib.hid hM3
    have HK9 := Lib.hid hK9
    have hw3 := Below.refl w3.heap.size w3
    have HBD := Lib.hid hlo9
    clear hgv hM3 hK9 hlo9 b0 b1 b2 b3
    go_wp2_with (first
      | (go_at_call 11; refine (mem_getE HM3.out HGV.out).mono ?_; rintro e w4 ⟨rfl, rfl⟩)
      | (go_at_call 31; refine (rem_getE HM3.out HR9.out hlr9 HGV.out).mono ?_; rintro e w5 ⟨rfl, hb5⟩))
    have HM5 := Lib.hid (HM3.out.below hb5)
    obtain ⟨lo2, lcap2, y1, y4⟩ := rf_cells HM5.out
    (refine wp_region_quiet_lit (by kernel_rfl) (by kernel_rfl) ?_; (repeat (any_goals (first | go_big_quiet_step ((first | (go_at_call 20; exact Calls.quiet_of_same (mem_down (HM5.out.below (by first | exact Below.refl _ _ | ((repeat (refine bN _ ?_)); first | exact Below.refl _ _ | go_grown))) HR9.out)) | (go_at_call 32; exact Calls.quiet_of_same (mem_loose (HM5.out.below (by first | exact Below.refl _ _ | ((repeat (refine bN _ ?_)); first | exact Below.refl _ _ | go_grown))) HR9.out)) | (go_at_call 33; exact Calls.quiet_of_same (mem_size (HM5.out.below (by first | exact Below.refl _ _ | ((repeat (refine bN _ ?_)); first | exact Below.refl _ _ | go_grown))))) | (go_at_call 34; exact Calls.quiet_of_same (rem_size (HM5.out.below (by first | exact Below.refl _ _ | ((repeat (refine bN _ ?_)); first | exact Below.refl _ _ | go_grown))) HR9.out)))) | quiet_step ((first | (go_at_call 20; exact Calls.quiet_of_same (mem_down (HM5.out.below (by first | exact Below.refl _ _ | ((repeat (refine bN _ ?_)); first | exact Below.refl _ _ | go_grown))) HR9.out)) | (go_at_call 32; exact Calls.quiet_of_same (mem_loose (HM5.out.below (by first | exact Below.refl _ _ | ((repeat (refine bN _ ?_)); first | exact Below.refl _ _ | go_grown))) HR9.out)) | (go_at_call 33; exact Calls.quiet_of_same (mem_size (HM5.out.below (by first | exact Below.refl _ _ | ((repeat (refine bN _ ?_)); first | exact Below.refl _ _ | go_grown))))) | (go_at_call 34; exact Calls.quiet_of_same (rem_size (HM5.out.below (by first | exact Below.refl _ _ | ((repeat (refine bN _ ?_)); first | exact Below.refl _ _ | go_grown))) HR9.out)))) | (refine wpQuiet_step (fun K hK => ?_); go_simp; split <;> (refine hK _ ?_; clear hK K))))); all_goals (refine wpQuiet_nil ?_; intro _ hw'; obtain ⟨nq, hw''⟩ := hw'; subst hw''))
    go_wp2_with fail
    go_ret
    exact do_end HW0.out (HM5.out.below (bN _ (Below.refl _ _))) (kept2 HK9.out ((Kept.refl _ _).step (chain hb5 (bN _ (Below.refl _ _))))) HR9.out HBD.out
  · have hd0 : (c.1 == 0) = false := by simpa using h0
    by_cases h1 : c.1 = 1
    · have hd1 : (c.1 == 1) = true := by simpa using h1
      have HP := Lib.hid HR.out.sync.2
      clear h0 h1
      go_enter Try.func18, Try.ntmps18
      go_wp2_with (first
        | (go_at_call 9; refine (mem_sync HM0.out hll).mono ?_; rintro e w2 ⟨rfl, hM2, hK2⟩)
        | (go_at_call 28; refine (rem_sync2 hM2 HR.out hlr).mono ?_; rintro e w3 ⟨rfl, hM3, hK3⟩; have hK8 := kept2 hK2 hK3; obtain ⟨p0, p1, p2, p3⟩ := HB.out _ hK8))
      have hK9 := kept2 hK2 hK3
      have HR9 := Lib.hid HP.out
      have hlo9 : (syncS st).lo.length ≤ st.lo.length + 1 := sync_lo
      generalize syncS st = st9 at *
      generalize rsyncS rs = rs9 at *
      clear HP hM2 hK2 hK3 hK8 p0 p1 p2 p3
      obtain ⟨q0, q1, q2, q3⟩ := HB.out _ hK9
      obtain ⟨lo, lcap, z1, z4⟩ := rf_cells hM3
      obtain ⟨x9, e9, hgv⟩ : ∃ x9 e9, getV st9 c.2.1 = .tuple #[.string x9, .int .i64 e9] := by unfold getV; split <;> exact ⟨_, _, rfl⟩
      have HGV := Lib.hid hgv
      have hlr9 : rs9.L.length ≤ 1000000000 := HR9.out.lrle hlo9 hlo
      have HM3 := Lib.hid hM3
      have HK9 := Lib.hid hK9
      have hw3 := Below.refl w3.heap.size w3
      have HBD := Lib.hid hlo9
      clear hgv hM3 hK9 hlo9 b0 b1 b2 b3
      go_wp2_with (first
        | (go_at_call 11; refine (mem_getE HM3.out HGV.out).mono ?_; rintro e w4 ⟨rfl, rfl⟩)
        | (go_at_call 31; refine (rem_getE HM3.out HR9.out hlr9 HGV.out).mono ?_; rintro e w5 ⟨rfl, hb5⟩))
      have HM5 := Lib.hid (HM3.out.below hb5)
      obtain ⟨lo2, lcap2, y1, y4⟩ := rf_cells HM5.out
      (refine wp_region_quiet_lit (by kernel_rfl) (by kernel_rfl) ?_; (repeat (any_goals (first | go_big_quiet_step ((first | (go_at_call 20; exact Calls.quiet_of_same (mem_down (HM5.out.below (by first | exact Below.refl _ _ | ((repeat (refine bN _ ?_)); first | exact Below.refl _ _ | go_grown))) HR9.out)) | (go_at_call 32; exact Calls.quiet_of_same (mem_loose (HM5.out.below (by first | exact Below.refl _ _ | ((repeat (refine bN _ ?_)); first | exact Below.refl _ _ | go_grown))) HR9.out)) | (go_at_call 33; exact Calls.quiet_of_same (mem_size (HM5.out.below (by first | exact Below.refl _ _ | ((repeat (refine bN _ ?_)); first | exact Below.refl _ _ | go_grown))))) | (go_at_call 34; exact Calls.quiet_of_same (rem_size (HM5.out.below (by first | exact Below.refl _ _ | ((repeat (refine bN _ ?_)); first | exact Below.refl _ _ | go_grown))) HR9.out)))) | quiet_step ((first | (go_at_call 20; exact Calls.quiet_of_same (mem_down (HM5.out.below (by first | exact Below.refl _ _ | ((repeat (refine bN _ ?_)); first | exact Below.refl _ _ | go_grown))) HR9.out)) | (go_at_call 32; exact Calls.quiet_of_same (mem_loose (HM5.out.below (by first | exact Below.refl _ _ | ((repeat (refine bN _ ?_)); first | exact Below.refl _ _ | go_grown))) HR9.out)) | (go_at_call 33; exact Calls.quiet_of_same (mem_size (HM5.out.below (by first | exact Below.refl _ _ | ((repeat (refine bN _ ?_)); first | exact Below.refl _ _ | go_grown))))) | (go_at_call 34; exact Calls.quiet_of_same (rem_size (HM5.out.below (by first | exact Below.refl _ _ | ((repeat (refine bN _ ?_)); first | exact Below.refl _ _ | go_grown))) HR9.out)))) | (refine wpQuiet_step (fun K hK => ?_); go_simp; split <;> (refine hK _ ?_; clear hK K))))); all_goals (refine wpQuiet_nil ?_; intro _ hw'; obtain ⟨nq, hw''⟩ := hw'; subst hw''))
      go_wp2_with fail
      go_ret
      exact do_end HW0.out (HM5.out.below (bN _ (Below.refl _ _))) (kept2 HK9.out ((Kept.refl _ _).step (chain hb5 (bN _ (Below.refl _ _))))) HR9.out HBD.out
    · have hd1 : (c.1 == 1) = false := by simpa using h1
      by_cases h2 : c.1 = 2
      · have hd2 : (c.1 == 2) = true := by simpa using h2
        have HP := Lib.hid (HR.out.fuse2 c.2.1)
        clear h0 h1 h2
        go_enter Try.func18, Try.ntmps18
        go_wp2_with (first
          | (go_at_call 19; refine (mem_fuse2 HM0.out c.2.1 hc1).mono ?_; rintro e w2 ⟨rfl, hM2, hK2⟩; obtain ⟨o0, o1, o2, o3⟩ := HB.out _ hK2)
          | (go_at_call 29; refine (rem_fuse2 hM2 c.2.1 hc1).mono ?_; rintro e w3 ⟨rfl, hM3, hK3⟩; have hK8 := kept2 hK2 hK3; obtain ⟨p0, p1, p2, p3⟩ := HB.out _ hK8))
        have hK9 := kept2 hK2 hK3
        have HR9 := Lib.hid HP.out
        have hlo9 : (fuseS st c.2.1).lo.length ≤ st.lo.length + 1 := Nat.le_succ _
        generalize fuseS st c.2.1 = st9 at *
        generalize rfuseS rs c.2.1 = rs9 at *
        clear HP hM2 hK2 hK3 hK8 o0 o1 o2 o3 p0 p1 p2 p3
        obtain ⟨q0, q1, q2, q3⟩ := HB.out _ hK9
        obtain ⟨lo, lcap, z1, z4⟩ := rf_cells hM3
        obtain ⟨x9, e9, hgv⟩ : ∃ x9 e9, getV st9 c.2.1 = .tuple #[.string x9, .int .i64 e9] := by unfold getV; split <;> exact ⟨_, _, rfl⟩
        have HGV := Lib.hid hgv
        have hlr9 : rs9.L.length ≤ 1000000000 := HR9.out.lrle hlo9 hlo
        have HM3 := Lib.hid hM3
        have HK9 := Lib.hid hK9
        have hw3 := Below.refl w3.heap.size w3
        have HBD := Lib.hid hlo9
        clear hgv hM3 hK9 hlo9 b0 b1 b2 b3
        go_wp2_with (first
          | (go_at_call 11; refine (mem_getE HM3.out HGV.out).mono ?_; rintro e w4 ⟨rfl, rfl⟩)
          | (go_at_call 31; refine (rem_getE HM3.out HR9.out hlr9 HGV.out).mono ?_; rintro e w5 ⟨rfl, hb5⟩))
        have HM5 := Lib.hid (HM3.out.below hb5)
        obtain ⟨lo2, lcap2, y1, y4⟩ := rf_cells HM5.out
        (refine wp_region_quiet_lit (by kernel_rfl) (by kernel_rfl) ?_; (repeat (any_goals (first | go_big_quiet_step ((first | (go_at_call 20; exact Calls.quiet_of_same (mem_down (HM5.out.below (by first | exact Below.refl _ _ | ((repeat (refine bN _ ?_)); first | exact Below.refl _ _ | go_grown))) HR9.out)) | (go_at_call 32; exact Calls.quiet_of_same (mem_loose (HM5.out.below (by first | exact Below.refl _ _ | ((repeat (refine bN _ ?_)); first | exact Below.refl _ _ | go_grown))) HR9.out)) | (go_at_call 33; exact Calls.quiet_of_same (mem_size (HM5.out.below (by first | exact Below.refl _ _ | ((repeat (refine bN _ ?_)); first | exact Below.refl _ _ | go_grown))))) | (go_at_call 34; exact Calls.quiet_of_same (rem_size (HM5.out.below (by first | exact Below.refl _ _ | ((repeat (refine bN _ ?_)); first | exact Below.refl _ _ | go_grown))) HR9.out)))) | quiet_step ((first | (go_at_call 20; exact Calls.quiet_of_same (mem_down (HM5.out.below (by first | exact Below.refl _ _ | ((repeat (refine bN _ ?_)); first | exact Below.refl _ _ | go_grown))) HR9.out)) | (go_at_call 32; exact Calls.quiet_of_same (mem_loose (HM5.out.below (by first | exact Below.refl _ _ | ((repeat (refine bN _ ?_)); first | exact Below.refl _ _ | go_grown))) HR9.out)) | (go_at_call 33; exact Calls.quiet_of_same (mem_size (HM5.out.below (by first | exact Below.refl _ _ | ((repeat (refine bN _ ?_)); first | exact Below.refl _ _ | go_grown))))) | (go_at_call 34; exact Calls.quiet_of_same (rem_size (HM5.out.below (by first | exact Below.refl _ _ | ((repeat (refine bN _ ?_)); first | exact Below.refl _ _ | go_grown))) HR9.out)))) | (refine wpQuiet_step (fun K hK => ?_); go_simp; split <;> (refine hK _ ?_; clear hK K))))); all_goals (refine wpQuiet_nil ?_; intro _ hw'; obtain ⟨nq, hw''⟩ := hw'; subst hw''))
        go_wp2_with fail
        go_ret
        exact do_end HW0.out (HM5.out.below (bN _ (Below.refl _ _))) (kept2 HK9.out ((Kept.refl _ _).step (chain hb5 (bN _ (Below.refl _ _))))) HR9.out HBD.out
      · have hd2 : (c.1 == 2) = false := by simpa using h2
        by_cases h3 : c.1 = 3
        · have hd3 : (c.1 == 3) = true := by simpa using h3
          have HP := Lib.hid (HR.out.crash c.2.2.2)
          obtain ⟨i0, hi, hz0, hz1, hz2⟩ := info_parts int_row2
          have HI := Lib.hid hi
          have HZ0 := Lib.hid hz0
          have HZ1 := Lib.hid hz1
          have HZ2 := Lib.hid hz2
          clear h0 h1 h2 h3 hi hz0 hz1 hz2
          go_enter Try.func18, Try.ntmps18
          go_wp2_with (first
            | (at_builtin; refine wpList_pushAll (Rd.int .i64) rfl _ _ 30 rfl W0.heap.size 3 i0 _ 8 Try.underlying30 HI.out HZ0.out HZ1.out HZ2.out rfl (by decide) (fun _ => True) _ [] rfl (own_made _ _ _ _ _ (Nat.le_refl _)) ko kcap c.2.2.2 rfl hnone (((HBL.out W0 hK0).here.old ((Below.refl _ _).alloc (Nat.le_refl _) _)).apart (fun k hk => by cases hk; exact Nat.le_refl _)) int_ones (by unfold maxLen; simp; omega) (by simp; omega) (by simp) ?_; intro v2 w2 hO2 hK2 hw2; obtain ⟨ao2, cap2, rfl⟩ := hO2.form; rw [List.nil_append] at hO2;
               have hb2 : Below W0.heap.size W0 w2 := (Kept.push2 hK2).below (Nat.le_refl _) (fun k hk => hk); have hO3 : Own (Rd.int .i64) (fun _ => False) w2 W0.heap.size 3 (.slice ao2 c.2.2.2.length cap2) c.2.2.2 := hO2.flat int_flat (Kept.refl (fun _ => False) _) (fun _ _ h => h); have hsl := hO3.sl.2.mono (S' := fun k => W0.heap.size ≤ k) (fun b h _ => h.elim False.elim id); have HSL := Lib.hid hsl; clear hsl hO2 hO3 hK2 hw2)
            | (go_at_call 10; refine (mem_crash HM0.out hb2 hll ao2 cap2 c.2.2.2 _ (by simp) (by omega) HSL.out).mono ?_; rintro e w3 ⟨rfl, hM2, hK2⟩; have hK7 := kept2 ((Kept.refl _ W0).step hb2) hK2; obtain ⟨o0, o1, o2, o3⟩ := HB.out _ hK7; have HSK := Lib.hid (HBL.out _ hK7))
            | (go_at_call 30; refine (rem_crash hM2 hlr ko kcap c.2.2.2 (by omega) HSK.out).mono ?_; rintro e w3 ⟨rfl, hM3, hK3⟩; have hK8 := kept2 hK7 hK3; obtain ⟨p0, p1, p2, p3⟩ := HB.out _ hK8))
          have hK9 := kept2 hK7 hK3
          have HR9 := Lib.hid HP.out
          have hlo9 : (crashS st c.2.2.2).lo.length ≤ st.lo.length + 1 := by rw [HR.out.good.crash]; simp
          generalize crashS st c.2.2.2 = st9 at *
          generalize rcrashS rs c.2.2.2 = rs9 at *
          clear HP hM2 hK2 hK3 hK7 hK8 HSK HSL o0 o1 o2 o3 p0 p1 p2 p3
          obtain ⟨q0, q1, q2, q3⟩ := HB.out _ hK9
          obtain ⟨lo, lcap, z1, z4⟩ := rf_cells hM3
          obtain ⟨x9, e9, hgv⟩ : ∃ x9 e9, getV st9 c.2.1 = .tuple #[.string x9, .int .i64 e9] := by unfold getV; split <;> exact ⟨_, _, rfl⟩
          have HGV := Lib.hid hgv
          have hlr9 : rs9.L.length ≤ 1000000000 := HR9.out.lrle hlo9 hlo
          have HM3 := Lib.hid hM3
          have HK9 := Lib.hid hK9
          have hw3 := Below.refl w3.heap.size w3
          have HBD := Lib.hid hlo9
          clear hgv hM3 hK9 hlo9 b0 b1 b2 b3
          go_wp2_with (first
            | (go_at_call 11; refine (mem_getE HM3.out HGV.out).mono ?_; rintro e w4 ⟨rfl, rfl⟩)
            | (go_at_call 31; refine (rem_getE HM3.out HR9.out hlr9 HGV.out).mono ?_; rintro e w5 ⟨rfl, hb5⟩))
          have HM5 := Lib.hid (HM3.out.below hb5)
          obtain ⟨lo2, lcap2, y1, y4⟩ := rf_cells HM5.out
          (refine wp_region_quiet_lit (by kernel_rfl) (by kernel_rfl) ?_; (repeat (any_goals (first | go_big_quiet_step ((first | (go_at_call 20; exact Calls.quiet_of_same (mem_down (HM5.out.below (by first | exact Below.refl _ _ | ((repeat (refine bN _ ?_)); first | exact Below.refl _ _ | go_grown))) HR9.out)) | (go_at_call 32; exact Calls.quiet_of_same (mem_loose (HM5.out.below (by first | exact Below.refl _ _ | ((repeat (refine bN _ ?_)); first | exact Below.refl _ _ | go_grown))) HR9.out)) | (go_at_call 33; exact Calls.quiet_of_same (mem_size (HM5.out.below (by first | exact Below.refl _ _ | ((repeat (refine bN _ ?_)); first | exact Below.refl _ _ | go_grown))))) | (go_at_call 34; exact Calls.quiet_of_same (rem_size (HM5.out.below (by first | exact Below.refl _ _ | ((repeat (refine bN _ ?_)); first | exact Below.refl _ _ | go_grown))) HR9.out)))) | quiet_step ((first | (go_at_call 20; exact Calls.quiet_of_same (mem_down (HM5.out.below (by first | exact Below.refl _ _ | ((repeat (refine bN _ ?_)); first | exact Below.refl _ _ | go_grown))) HR9.out)) | (go_at_call 32; exact Calls.quiet_of_same (mem_loose (HM5.out.below (by first | exact Below.refl _ _ | ((repeat (refine bN _ ?_)); first | exact Below.refl _ _ | go_grown))) HR9.out)) | (go_at_call 33; exact Calls.quiet_of_same (mem_size (HM5.out.below (by first | exact Below.refl _ _ | ((repeat (refine bN _ ?_)); first | exact Below.refl _ _ | go_grown))))) | (go_at_call 34; exact Calls.quiet_of_same (rem_size (HM5.out.below (by first | exact Below.refl _ _ | ((repeat (refine bN _ ?_)); first | exact Below.refl _ _ | go_grown))) HR9.out)))) | (refine wpQuiet_step (fun K hK => ?_); go_simp; split <;> (refine hK _ ?_; clear hK K))))); all_goals (refine wpQuiet_nil ?_; intro _ hw'; obtain ⟨nq, hw''⟩ := hw'; subst hw''))
          go_wp2_with fail
          go_ret
          exact do_end HW0.out (HM5.out.below (bN _ (Below.refl _ _))) (kept2 HK9.out ((Kept.refl _ _).step (chain hb5 (bN _ (Below.refl _ _))))) HR9.out HBD.out
        · have hd3 : (c.1 == 3) = false := by simpa using h3
          clear h0 h1 h2 h3
          have hM3 := HM0.out
          go_enter Try.func18, Try.ntmps18
          have hK9 := hK0
          have HR9 := Lib.hid HR.out
          have hlo9 : st.lo.length ≤ st.lo.length + 1 := Nat.le_succ _
          obtain ⟨q0, q1, q2, q3⟩ := HB.out _ hK9
          obtain ⟨lo, lcap, z1, z4⟩ := rf_cells hM3
          obtain ⟨x9, e9, hgv⟩ : ∃ x9 e9, getV st c.2.1 = .tuple #[.string x9, .int .i64 e9] := by unfold getV; split <;> exact ⟨_, _, rfl⟩
          have HGV := Lib.hid hgv
          have hlr9 : rs.L.length ≤ 1000000000 := HR9.out.lrle hlo9 hlo
          have HM3 := Lib.hid hM3
          have HK9 := Lib.hid hK9
          have HBD := Lib.hid hlo9
          clear hgv hM3 hK9 hlo9 b0 b1 b2 b3
          go_wp2_with (first
            | (go_at_call 11; refine (mem_getE HM3.out HGV.out).mono ?_; rintro e w4 ⟨rfl, rfl⟩)
            | (go_at_call 31; refine (rem_getE HM3.out HR9.out hlr9 HGV.out).mono ?_; rintro e w5 ⟨rfl, hb5⟩))
          have HM5 := Lib.hid (HM3.out.below hb5)
          obtain ⟨lo2, lcap2, y1, y4⟩ := rf_cells HM5.out
          (refine wp_region_quiet_lit (by kernel_rfl) (by kernel_rfl) ?_; (repeat (any_goals (first | go_big_quiet_step ((first | (go_at_call 20; exact Calls.quiet_of_same (mem_down (HM5.out.below (by first | exact Below.refl _ _ | ((repeat (refine bN _ ?_)); first | exact Below.refl _ _ | go_grown))) HR9.out)) | (go_at_call 32; exact Calls.quiet_of_same (mem_loose (HM5.out.below (by first | exact Below.refl _ _ | ((repeat (refine bN _ ?_)); first | exact Below.refl _ _ | go_grown))) HR9.out)) | (go_at_call 33; exact Calls.quiet_of_same (mem_size (HM5.out.below (by first | exact Below.refl _ _ | ((repeat (refine bN _ ?_)); first | exact Below.refl _ _ | go_grown))))) | (go_at_call 34; exact Calls.quiet_of_same (rem_size (HM5.out.below (by first | exact Below.refl _ _ | ((repeat (refine bN _ ?_)); first | exact Below.refl _ _ | go_grown))) HR9.out)))) | quiet_step ((first | (go_at_call 20; exact Calls.quiet_of_same (mem_down (HM5.out.below (by first | exact Below.refl _ _ | ((repeat (refine bN _ ?_)); first | exact Below.refl _ _ | go_grown))) HR9.out)) | (go_at_call 32; exact Calls.quiet_of_same (mem_loose (HM5.out.below (by first | exact Below.refl _ _ | ((repeat (refine bN _ ?_)); first | exact Below.refl _ _ | go_grown))) HR9.out)) | (go_at_call 33; exact Calls.quiet_of_same (mem_size (HM5.out.below (by first | exact Below.refl _ _ | ((repeat (refine bN _ ?_)); first | exact Below.refl _ _ | go_grown))))) | (go_at_call 34; exact Calls.quiet_of_same (rem_size (HM5.out.below (by first | exact Below.refl _ _ | ((repeat (refine bN _ ?_)); first | exact Below.refl _ _ | go_grown))) HR9.out)))) | (refine wpQuiet_step (fun K hK => ?_); go_simp; split <;> (refine hK _ ?_; clear hK K))))); all_goals (refine wpQuiet_nil ?_; intro _ hw'; obtain ⟨nq, hw''⟩ := hw'; subst hw''))
          go_wp2_with fail
          go_ret
          exact do_end HW0.out (HM5.out.below (bN _ (Below.refl _ _))) (kept2 HK9.out ((Kept.refl _ _).step (chain hb5 (bN _ (Below.refl _ _))))) HR9.out HBD.out
end Go.Proofs.Ytbgdkpgegbkfkaa
