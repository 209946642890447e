/- Do: a call of both. -/
import Derived.Test.YtaljgcdjkmpljaaDoorPlRel
import Derived.Deep.RegionHeld3
namespace Go.Proofs.YtaljgcdjkmpljaaDoor
open Go.RowKit Lift
set_option linter.unusedSimpArgs false
set_option linter.unusedVariables false

section
variable {base : Nat} {w : World} {O : Nat → Prop} {ab rb : Nat} {st : St} {rs : RSt}
theorem mem_put (h : Mem base w O ab st rb rs) (x : Int) (s : ByteArray) (hs : s.size ≤ maxTx) (hll : st.lo.length ≤ 1000000000) :
    Calls Tryd.prog 28 #[.pointer (some ⟨ab, 0, none⟩), .int .i64 x, .string s] w (MemV base O ab (putS st x s) rb rs (.int .i64 (putE st x s)) w) :=
  h.stepA fun F hF e _ => by subst e; exact put_any hF x s hs hll
theorem mem_sync (h : Mem base w O ab st rb rs) (hll : st.lo.length ≤ 1000000000) :
    Calls Tryd.prog 38 #[.pointer (some ⟨ab, 0, none⟩)] w (MemV base O ab (syncS st) rb rs (.int .i64 (syncE st)) w) :=
  h.stepA fun F hF e _ => by subst e; exact sync_any hF hll
theorem mem_fuse (h : Mem base w O ab st rb rs) (n : Int) (hn : Wf n) :
    Calls Tryd.prog 14 #[.pointer (some ⟨ab, 0, none⟩), .int .i64 n] w (MemV base O ab { st with fu := max n (-1) } rb rs (.tuple #[]) w) :=
  h.stepA fun F hF e _ => by
    subst e
    have := int_i64 hn
    exact (fuse_any hF n this.1 this.2).mono fun e w' h => h.pl rfl (fun k h => h)
theorem mem_crash {w4 : World} (h : Mem base w4 O ab st rb rs) (hb : Below w4.heap.size w4 w) (hll : st.lo.length ≤ 1000000000) (ko : Option Addr) (kcap : Nat) (keep : List Int) (n : Nat) (hn : n = keep.length) (hkl : keep.length ≤ 9223372036854775807) (hk : SlAt (Rd.int .i64) (fun k => w4.heap.size ≤ k) w ko keep) :
    Calls Tryd.prog 19 #[.pointer (some ⟨ab, 0, none⟩), .slice ko n kcap] w (MemV base O ab (crashS st keep) rb rs (.tuple #[]) w) := by
  subst hn
  obtain ⟨F, R, e1, e2, h1, h2, h3, h4⟩ := h
  have r1 := h1.below hb
  have r2 := h2.below hb
  have hk2 : SlAt (Rd.int .i64) (fun b => ¬ foot F b) w ko keep := hk.mono (fun k hk _ hf => by have := h1.inb k hf; omega)
  subst e1
  refine (crash_any r1 hll ko kcap keep hkl hk2).mono ?_
  rintro e w' ⟨he, hR, hK⟩
  exact ⟨he, ⟨_, R, by rfl, e2, hR, r2.kept hK (fun k a b => h3 k b a), fun k a b => h3 k (foot_nil k a) b, fun k hO => ⟨fun a => (h4 k hO).1 (foot_nil k a), (h4 k hO).2.1, Nat.lt_of_lt_of_le (Nat.lt_of_lt_of_le (h4 k hO).2.2 hb.size) hK.size⟩⟩,
    hK.wide (fun k _ hfk => ⟨h1.ge k hfk, fun hO => (h4 k hO).1 hfk⟩)⟩
theorem rem_put (h : Mem base w O ab st rb rs) (hn : rs.fz = true → 0 ≤ rs.n) (x : Int) (s : ByteArray) (hs : s.size ≤ maxTx) (hx : Wf x) (hll : rs.L.length ≤ 1000000000) :
    Calls Tryd.prog 29 #[.pointer (some ⟨rb, 0, none⟩), .int .i64 x, .string s] w (MemV base O ab st rb (rputS rs x s) (.int .i64 (errP rs x s)) w) :=
  h.stepR fun R hR e => by subst e; exact put_plate_ref hR hn x s hs hx hll
theorem rem_sync (h : Mem base w O ab st rb rs) (hn : rs.fz = true → 0 ≤ rs.n) (hll : rs.L.length ≤ 1000000000) :
    Calls Tryd.prog 49 #[.pointer (some ⟨rb, 0, none⟩)] w (MemV base O ab st rb (rsyncS rs) (.int .i64 (rsyncE rs)) w) :=
  h.stepR fun R hR e => by subst e; exact sync_ref hR hn hll
theorem rem_fuse (h : Mem base w O ab st rb rs) (n : Int) (hn : Wf n) :
    Calls Tryd.prog 27 #[.pointer (some ⟨rb, 0, none⟩), .int .i64 n] w (MemV base O ab st rb { rs with fz := decide (0 ≤ n), n := n } (.tuple #[]) w) :=
  h.stepR fun R hR e => by subst e; exact fuse_ref hR n hn
theorem rem_crash (h : Mem base w O ab st rb rs) (hll : rs.L.length ≤ 1000000000) (ko : Option Addr) (kcap : Nat) (keep : List Int) (hkl : keep.length ≤ 9223372036854775807) (hk : SlAt (Rd.int .i64) (· < base) w ko keep) :
    Calls Tryd.prog 30 #[.pointer (some ⟨rb, 0, none⟩), .slice ko keep.length kcap] w (MemV base O ab st rb (rcrashS rs keep) (.tuple #[]) w) :=
  h.stepR fun R hR e => by
    have hk2 : SlAt (Rd.int .i64) (fun b => ¬ rfoot R b) w ko keep := hk.mono (fun k hk _ hf => by have := hR.ge k hf; omega)
    subst e
    exact crash_ref hR hll ko kcap keep hkl hk2
theorem mem_get (h : Mem base w O ab st rb rs) (x : Int) : Calls Tryd.prog 43 #[.pointer (some ⟨ab, 0, none⟩), .int .i64 x] w (fun e w' => e = .returned (getV st x) ∧ w = w') := pl_get h.pl x
theorem rem_get (h : Mem base w O ab st rb rs) (hR : Rel st rs) (x : Int) (hll : rs.L.length ≤ 1000000000) : Calls Tryd.prog 57 #[.pointer (some ⟨rb, 0, none⟩), .int .i64 x] w (BelowPost (getV st x) w) := by
  obtain ⟨R, rfl, h2⟩ := h.rf
  rw [← hR.get]
  exact get_ref h2 x hll
theorem rem_image (h : Mem base w O ab st rb rs) (hR : Rel st rs) (hll : rs.L.length ≤ 1000000000) : Calls Tryd.prog 33 #[.pointer (some ⟨rb, 0, none⟩)] w (StrPost (imageB st.no) w) := by
  obtain ⟨R, rfl, h2⟩ := h.rf
  rw [← hR.no]
  exact image_ref h2 hll
theorem mem_image (h : Mem base w O ab st rb rs) : Calls Tryd.prog 13 #[.pointer (some ⟨ab, 0, none⟩)] w (StrPost (imageB st.no) w) := pl_image h.pl
theorem mem_size (h : Mem base w O ab st rb rs) : Calls Tryd.prog 61 #[.pointer (some ⟨ab, 0, none⟩)] w (fun e w' => e = .returned (.int .i64 (st.no.length : Int)) ∧ w' = w) := by
  obtain ⟨F, R, rfl, e2, h1, h2, h3, h4⟩ := h
  exact (size_any h1).mono fun _ _ ⟨a, b⟩ => ⟨a, b.symm⟩
theorem rem_size (h : Mem base w O ab st rb rs) (hR : Rel st rs) : Calls Tryd.prog 53 #[.pointer (some ⟨rb, 0, none⟩)] w (fun e w' => e = .returned (.int .i64 (st.no.length : Int)) ∧ w' = w) := by
  obtain ⟨R, rfl, h2⟩ := h.rf
  rw [← hR.len]
  exact (size_ref h2).mono fun _ _ ⟨a, b⟩ => ⟨a, b.symm⟩
theorem mem_down (h : Mem base w O ab st rb rs) (hR : Rel st rs) : Calls Tryd.prog 18 #[.pointer (some ⟨ab, 0, none⟩)] w (fun e w' => e = .returned (.bool rs.off) ∧ w' = w) := by
  obtain ⟨F, R, rfl, e2, h1, h2, h3, h4⟩ := h
  rw [hR.off]
  exact (down_any h1).mono fun _ _ ⟨a, b⟩ => ⟨a, b.symm⟩
theorem rem_put2 {st0 : St} (h : Mem base w O ab st rb rs) (hR : Rel st0 rs) (x : Int) (s : ByteArray) (hs : s.size ≤ maxTx) (hx : Wf x) (hll : rs.L.length ≤ 1000000000) :
    Calls Tryd.prog 29 #[.pointer (some ⟨rb, 0, none⟩), .int .i64 x, .string s] w (MemV base O ab st rb (rputS rs x s) (.int .i64 (putE st0 x s)) w) := by
  have := rem_put h hR.pos x s hs hx hll
  rwa [(hR.put x s).1] at this
theorem rem_sync2 {st0 : St} (h : Mem base w O ab st rb rs) (hR : Rel st0 rs) (hll : rs.L.length ≤ 1000000000) :
    Calls Tryd.prog 49 #[.pointer (some ⟨rb, 0, none⟩)] w (MemV base O ab st rb (rsyncS rs) (.int .i64 (syncE st0)) w) := by
  have := rem_sync h hR.pos hll
  rwa [hR.sync.1] at this
theorem rf_cells (h : Mem base w O ab st rb rs) : ∃ lo lcap, w.cell? ⟨rb, 1, none⟩ = some (.slice lo rs.L.length lcap) ∧ w.cell? ⟨rb, 4, none⟩ = some (.bool rs.off) := by
  obtain ⟨R, rfl, h2⟩ := h.rf
  obtain ⟨_, c1, _, _, c4⟩ := h2.cells
  obtain ⟨ao, cap, e⟩ := h2.own2.form
  rw [e] at c1
  exact ⟨ao, cap, c1, c4⟩
end
theorem mem_getE {base : Nat} {w : World} {O : Nat → Prop} {ab rb : Nat} {st : St} {rs : RSt} {x : Int} {v : Value} (h : Mem base w O ab st rb rs) (e : getV st x = v) : Calls Tryd.prog 43 #[.pointer (some ⟨ab, 0, none⟩), .int .i64 x] w (fun e w' => e = .returned v ∧ w = w') := by
  subst e; exact mem_get h x
theorem rem_getE {base : Nat} {w : World} {O : Nat → Prop} {ab rb : Nat} {st : St} {rs : RSt} {x : Int} {v : Value} (h : Mem base w O ab st rb rs) (hR : Rel st rs) (hll : rs.L.length ≤ 1000000000) (e : getV st x = v) : Calls Tryd.prog 57 #[.pointer (some ⟨rb, 0, none⟩), .int .i64 x] w (BelowPost v w) := by
  subst e; exact rem_get h hR x hll
def fuseS (st : St) (n : Int) : St := { st with fu := max n (-1) }
def rfuseS (rs : RSt) (n : Int) : RSt := { rs with fz := decide (0 ≤ n), n := n }
theorem Rel.fuse2 {st : St} {rs : RSt} (h : Rel st rs) (n : Int) : Rel (fuseS st n) (rfuseS rs n) := h.fuse n
theorem mem_fuse2 {base : Nat} {w : World} {O : Nat → Prop} {ab rb : Nat} {st : St} {rs : RSt} (h : Mem base w O ab st rb rs) (n : Int) (hn : Wf n) :
    Calls Tryd.prog 14 #[.pointer (some ⟨ab, 0, none⟩), .int .i64 n] w (MemV base O ab (fuseS st n) rb rs (.tuple #[]) w) := mem_fuse h n hn
theorem rem_fuse2 {base : Nat} {w : World} {O : Nat → Prop} {ab rb : Nat} {st : St} {rs : RSt} (h : Mem base w O ab st rb rs) (n : Int) (hn : Wf n) :
    Calls Tryd.prog 27 #[.pointer (some ⟨rb, 0, none⟩), .int .i64 n] w (MemV base O ab st rb (rfuseS rs n) (.tuple #[]) w) := rem_fuse h n hn
theorem int_row2 : (Tryd.prog.info? 3).map (fun i => (i.zero, i.size, i.bytes)) = some (some (.int .i64 0), 1, 8) := by kernel_rfl
theorem int_flat : Flat (Rd.int .i64) := fun _ _ _ _ _ _ h => h
theorem int_ones : ∀ S w cs c, (Rd.int .i64).rel S w cs c → ∀ u ∈ cs, u.oneCell' = true := by
  rintro S w cs c ⟨rfl, _⟩ u hu
  simp at hu; subst hu; rfl
theorem Rel.lrle {st : St} {rs : RSt} (h : Rel st rs) {n : Nat} (h1 : st.lo.length ≤ n + 1) (h2 : n ≤ 1000000) : rs.L.length ≤ 1000000000 := by
  have : st.lo.length = rs.L.length := by rw [h.lo, List.length_map]
  omega
def BoxC (w : World) (tb : Nat) (c : Op4) (ko : Option Addr) (kcap : Nat) : Prop :=
  w.cell? ⟨tb, 0, none⟩ = some (.int .i64 c.1) ∧ w.cell? ⟨tb, 1, none⟩ = some (.int .i64 c.2.1) ∧ w.cell? ⟨tb, 2, none⟩ = some (.string c.2.2.1) ∧ w.cell? ⟨tb, 3, none⟩ = some (.slice ko c.2.2.2.length kcap)
theorem BoxC.kept {w w' : World} {tb : Nat} {c : Op4} {ko : Option Addr} {kcap : Nat} {X : Nat → Prop} (h : BoxC w tb c ko kcap) (hk : Kept X w w') (hx : ¬ X tb) (hlt : tb < w.heap.size) : BoxC w' tb c ko kcap :=
  ⟨(hk.cell (p := ⟨tb, 0, none⟩) hlt hx).trans h.1, (hk.cell (p := ⟨tb, 1, none⟩) hlt hx).trans h.2.1, (hk.cell (p := ⟨tb, 2, none⟩) hlt hx).trans h.2.2.1, (hk.cell (p := ⟨tb, 3, none⟩) hlt hx).trans h.2.2.2⟩
def DoPost (base : Nat) (O : Nat → Prop) (ab : Nat) (st : St) (rb : Nat) (w : World) (e : Ending) (w' : World) : Prop :=
  ∃ st' rs', e = .returned (.bool true) ∧ Rel st' rs' ∧ st'.lo.length ≤ st.lo.length + 1 ∧ Mem base w' O ab st' rb rs' ∧ Kept (Free base O) w w'
theorem kept2 {base : Nat} {O : Nat → Prop} {a b c : World} (h : Kept (Free base O) a b) (k : Kept (Free base O) b c) : Kept (Free base O) a c := h.trans k (fun _ _ h => h) (fun _ _ h => h)
theorem do_end {base : Nat} {w w0 w' : World} {O : Nat → Prop} {ab rb : Nat} {st st' : St} {rs' : RSt} {ob : Obj} (hw0 : w.alloc ob = w0) (hM : Mem base w' (fun k => O k ∨ k = w.heap.size) ab st' rb rs') (hK : Kept (Free base (fun k => O k ∨ k = w.heap.size)) w0 w') (hR : Rel st' rs') (hlo : st'.lo.length ≤ st.lo.length + 1) :
    DoPost base O ab st rb w (.returned (.bool true)) w' := by
  subst hw0
  refine ⟨st', rs', rfl, hR, hlo, hM.less (fun k h => .inl h), ?_⟩
  exact (Kept.alloc (fun _ => False) w ob).trans hK (fun _ _ h => h.elim) (fun k _ h => ⟨h.1, fun ho => h.2 (.inl ho)⟩)
theorem put_lo {st : St} {x : Int} {s : ByteArray} : (putS st x s).lo.length ≤ st.lo.length + 1 := by
  unfold putS
  split
  · split
    · omega
    · split
      · show ((burnS st).lo ++ _).length ≤ _
        rw [burnS_same.2.2]; simp
      · rw [burnS_same.2.2]; omega
  · omega
theorem sync_lo {st : St} : (syncS st).lo.length ≤ st.lo.length + 1 := by
  unfold syncS
  split
  · omega
  · split
    · simp
    · rw [burnS_same.2.2]; omega
end Go.Proofs.YtaljgcdjkmpljaaDoor
