/- Put. -/
import Derived.Test.YtaljgcdjkmpljaaDoorPl2
import Derived.Great.BuildSlice
import Derived.Deep.RegionLaw
namespace Go.Proofs.YtaljgcdjkmpljaaDoor
open Go.RowKit Lift
set_option linter.unusedSimpArgs false
set_option linter.unusedVariables false

def zer : List UInt8 := List.replicate 64 0
def pad (s : ByteArray) : List UInt8 := s.data.toList ++ List.replicate (64 - s.size) 0
theorem pad_len {s : ByteArray} (h : s.size ≤ 64) : (pad s).length = 64 := by simp [pad]; omega
theorem zer_len : zer.length = 64 := by simp [zer]
theorem built_wr (k : Nat) : Tryd.prog.built 89 [(0, .int .i64 (k : Int))] = some (wrCells (k, zer)).toArray := by kernel_rfl
theorem wpList_build_wr {ops : Array Oper} {rest : List Oper} {o : Oper} {a : Act} {w : World} {Q : Exit → Act → World → Prop} (hgd : o.guard = none) (x : Operand) (ho : o.op = .build 89 #[(0, x)]) (k : Nat) (hx : a.eval x = .int .i64 (k : Int))
    (h : wpList Tryd.prog ops Q rest (a.put o.dst (.agg (wrCells (k, zer)).toArray)) w) : wpList Tryd.prog ops Q (o :: rest) a w := by
  have e : Tryd.prog.built 89 (Array.map (fun (x : Nat × Operand) => (x.1, a.eval x.2)) #[(0, x)]).toList = some (wrCells (k, zer)).toArray := by
    simp only [List.map_toArray, List.map_cons, List.map_nil, hx]
    exact built_wr k
  refine wpList_build hgd 89 _ ho (by rw [show Tryd.prog.built _ _ = _ from e]; rfl) ?_
  rw [show Tryd.prog.built 89 _ = _ from e]
  exact h
theorem wpList_copy_wr {ops : Array Oper} {rest : List Oper} {o : Oper} {a : Act} {w : World} {Q : Exit → Act → World → Prop} (hgd : o.guard = none) (d s : Operand) (ho : o.op = .call { callee := .builtin .copy, args := #[d, s], argTypes := #[32, 9] })
    (hd : a.eval d = .slice (some ⟨w.heap.size, 1, none⟩) 64 64) (t : ByteArray) (hs : a.eval s = .string t) (ht : t.size ≤ 64) (k : Nat)
    (h : wpList Tryd.prog ops Q rest (a.put o.dst (goInt t.size)) (w.alloc (.cells (wrCells (k, pad t)).toArray 89))) : wpList Tryd.prog ops Q (o :: rest) a (w.alloc (.cells (wrCells (k, zer)).toArray 89)) := by
  refine wpList_plain hgd fun K hK => ?_
  have hrun := Lib.run_copy_row_string (P := Tryd.prog) (w.alloc (.cells (wrCells (k, zer)).toArray 89)) 32 9 o.type 5 w.heap.size 1 64 64 t _ 89 Tryd.underlying32 (by kernel_rfl) (heap_alloc_last w _) ht (by simp [wrCells, cs_len, zer_len]; omega)
  rw [World.setRow_alloc_new] at hrun
  have e : List.take 1 (wrCells (k, zer)).toArray.toList ++ Lib.byteCells t.data.toList ++ List.drop (1 + t.size) (wrCells (k, zer)).toArray.toList = wrCells (k, pad t) := by
    simp only [List.toList_toArray, wrCells, List.take_succ_cons, List.take_zero, pad, Lib.byteCells, zer]
    rw [show 1 + t.size = t.size + 1 by omega, List.drop_succ_cons, List.map_replicate, List.drop_replicate, List.map_append, List.map_replicate]
    rfl
  rw [e] at hrun
  unfold Oper.wp
  simp [execOp, ho, resolve, invoke, builtin, hd, hs, hrun, Result.andThen]
  exact hK _ _ h
theorem fold_sets : ∀ (l : List Value) (k : Nat) (cs : Array Value), k + l.length ≤ cs.size →
    ((l.zipIdx k).foldl (fun (cs : Array Value) (x : Value × Nat) => cs.setIfInBounds (0 + x.2) x.1) cs).toList = cs.toList.take k ++ l ++ cs.toList.drop (k + l.length)
  | [], k, cs, _ => by simp
  | v :: r, k, cs, h => by
    simp only [List.length_cons] at h
    rw [List.zipIdx_cons, List.foldl_cons, fold_sets r (k + 1) _ (by simp; omega)]
    simp only [Nat.zero_add, Array.toList_setIfInBounds, List.length_cons]
    rw [List.take_succ_eq_append_getElem (by simp; omega), List.take_set_of_le (by omega), List.drop_set_of_lt (by omega)]
    simp [show k + 1 + r.length = k + (r.length + 1) by omega]
theorem fillOne (z c : Array Value) (h : z.size = c.size) (n : Nat) (hn : n = c.size) : Instr.fill (fun i => some (i * n, n)) z [(0, .agg c)] = some c := by
  subst hn
  have e := fold_sets c.toList 0 z (by simp [h])
  simp only [Instr.fill, Value.cells, Nat.zero_mul, Nat.zero_add, ne_eq, not_true_eq_false, decide_false, Bool.false_or, decide_eq_true_eq]
  rw [if_neg (by simp [h])]
  congr 1
  apply Array.toList_inj.1
  simp only [List.take_zero, List.nil_append, Nat.zero_add] at e
  rw [List.drop_of_length_le (by simp [h])] at e
  rw [← Array.foldl_toList]
  simpa using e
theorem range_mod (z : Array Value) : (Array.range (1 * z.size)).map (z[· % z.size]!) = z := by
  apply Array.ext
  · simp
  · intro i h1 h2
    simp at h1
    simp [Nat.mod_eq_of_lt h1, h2]
theorem wp_bs_wr {o : Oper} {a : Act} {w : World} {K : Act → World → Prop} {Q : Exit → Act → World → Prop} (x : Operand) (ho : o.op = .buildSlice 75 1 #[(0, x)]) (d : Wr) (hd : d.2.length = 64) (hx : a.eval x = .agg (wrCells d).toArray)
    (h : K (a.put o.dst (.slice (some ⟨w.heap.size, 0, none⟩) 1 1)) (w.alloc (.cells (wrCells d).toArray 89))) : o.wp Tryd.prog a w K Q := by
  have hi := i_wrZ
  have hc : (wrCells d).toArray.size = 65 := by simp [wrCells, cs_len, hd]
  cases hq : Tryd.prog.info? 89 with
  | none => rw [hq] at hi; simp at hi
  | some i =>
    rw [hq] at hi
    simp at hi
    refine wp_buildSlice 75 89 1 #[(0, x)] ho (wrCells d).toArray i (.agg wrZ) Tryd.underlying75 hq hi.1 (by rw [hi.2]; omega) (by rw [hi.2]; omega) ?_ h
    rw [hi.2]
    have e := range_mod wrZ
    rw [wrZ_size] at e
    have hp : (Array.map (fun (p : Nat × Operand) => (p.1, a.eval p.2)) #[(0, x)]).toList = [(0, .agg (wrCells d).toArray)] := by simp [hx]
    rw [show Array.toList _ = _ from hp]
    show Instr.fill _ ((Array.range (1 * 65)).map fun x => wrZ[x % wrZ.size]!) _ = _
    rw [wrZ_size, e]
    exact fillOne wrZ _ (by rw [wrZ_size, hc]) 65 hc.symm
theorem wr_row : (Tryd.prog.info? 89).map (fun i => (i.zero, i.size, i.bytes)) = some (some (.agg wrZ), 65, 72) := by kernel_rfl

def putE (st : St) (x : Int) (s : ByteArray) : Int := if thereE st x = 0 then (if 64 < s.size then 8 else burnE st) else thereE st x
def putS (st : St) (x : Int) (s : ByteArray) : St := if thereE st x = 0 then (if 64 < s.size then st else if burnE st = 0 then { burnS st with no := (burnS st).no.set x.toNat (pad s), lo := (burnS st).lo ++ [(x.toNat, pad s)] } else burnS st) else st
theorem burnS_same {st : St} : (burnS st).su = st.su ∧ (burnS st).no = st.no ∧ (burnS st).lo = st.lo := by
  unfold burnS; split
  · exact ⟨rfl, rfl, rfl⟩
  · split <;> exact ⟨rfl, rfl, rfl⟩
theorem heap_of_kept {X : Nat → Prop} {w w' : World} (h : Kept X w w') {g : Nat} (hx : ¬ X g) {o : Obj} (hg : w.heap[g]? = some o) : w'.heap[g]? = some o :=
  (h.block g (Array.getElem?_eq_some_iff.1 hg).1 hx).trans hg
theorem row_at {w : World} {g : Nat} {C : Array Value} {t : TypeId} {fr : Nat × Nat} (hg : w.heap[g]? = some (.cells C t fr)) (o : Nat) (cs : List Value) (h : C.toList.drop o = cs) : w.rangeAt g o cs := by
  intro j v hv
  rw [cell_of_row w g (o + j) C t fr hg]
  subst h
  rw [List.getElem?_drop] at hv
  simpa using hv
/-- What a step of a plate leaves. -/
def PlPost (base : Nat) (F : Fp) (st : St) (v : Value) (w : World) (e : Ending) (w' : World) : Prop :=
  ∃ F', e = .returned v ∧ Raw base w' F' st ∧ F'.b = F.b ∧ (∀ k, foot F' k → foot F k ∨ w.heap.size ≤ k) ∧ Kept (foot F) w w'
theorem PlPost.same {base : Nat} {F : Fp} {st : St} {v : Value} {w w' : World} {e : Ending} (he : e = .returned v) (h : Raw base w' F st) (hk : Kept (foot F) w w') : PlPost base F st v w e w' :=
  ⟨F, he, h, rfl, fun k h => .inl h, hk⟩
theorem put_end {base : Nat} {w W4 w5 : World} {F : Fp} {st : St} {v5 : Value} {no : Secs} (HR : Raw base W4 F { st with no := no }) (hK : Kept (foot F) w W4) (x : Wr) (hx : x.1 < st.no.length) (hn : no.length = st.no.length) (hO : Own rWr (fun _ => True) w5 base 89 v5 (st.lo ++ [x]))
    (hK5 : Kept (fun j => some j = F.lv.ownBlock) W4 w5) (hw5 : v5.ownBlock = F.lv.ownBlock ∨ ∃ g, v5.ownBlock = some g ∧ W4.heap.size < g) :
    PlPost base F { st with no := no, lo := st.lo ++ [x] } (.int .i64 0) w (.returned (.int .i64 0)) (w5.setCell ⟨F.b, 2, none⟩ v5) := by
  have h5 : ∀ j, v5.ownBlock = some j → F.lv.ownBlock = some j ∨ W4.heap.size < j := by
    intro j hj
    rcases hw5 with e | ⟨g, e, hg⟩
    · exact .inl (e ▸ hj)
    · rw [e] at hj; injection hj with hj; exact .inr (hj ▸ hg)
  have hlt := HR.lt
  have ne : ∀ j, j < W4.heap.size → F.lv.ownBlock ≠ some j → v5.ownBlock ≠ some j := by
    intro j hj hn e
    rcases h5 j e with h | h
    · exact hn h
    · omega
  -- with a row of its own behind the append
  have hx1 : ¬ some F.b = F.lv.ownBlock := fun e => HR.a4 e.symm
  have hR5 : Raw base (w5.setCell ⟨F.b, 2, none⟩ v5) { F with lv := v5 } { st with no := no, lo := st.lo ++ [x] } := by
    have hk2 := Kept.setCell (X := fun k => k = F.b) w5 (p := ⟨F.b, 2, none⟩) rfl v5
    have hb5 : w5.heap[F.b]? = some (.cells (plCells F no.length { st with no := no }) 77 (0, 0)) := (hK5.block F.b hlt.1 hx1).trans HR.blk
    exact { HR with
      lat := by
        intro y hy
        rcases List.mem_append.1 hy with hy | hy
        · exact HR.lat y hy
        · simp only [List.mem_singleton] at hy; rw [hy]; show x.1 < no.length; omega
      blk := by rw [heap_setCell_same w5 _ 2 _ _ _ hb5, plset2]; rfl
      own1 := (HR.own1.flat sec_flat hK5 (fun k e => by injection e with e; subst e; exact fun e => HR.a5 e.symm) : Own rSec (fun _ => True) _ _ _ _ _).flat sec_flat hk2 (fun k e => by injection e with e; subst e; exact HR.a1)
      own2 := (HR.own2.flat sec_flat hK5 (fun k e => by injection e with e; subst e; exact fun e => HR.a6 e.symm) : Own rSec (fun _ => True) _ _ _ _ _).flat sec_flat hk2 (fun k e => by injection e with e; subst e; exact HR.a2)
      own3 := hO.flat wr_flat hk2 (fun k e hh => by subst hh; exact ne _ hlt.1 HR.a4 e)
      a4 := ne _ hlt.1 HR.a4
      a5 := ne _ hlt.2.1 HR.a5
      a6 := ne _ hlt.2.2.1 HR.a6
      nil := by simp }
  refine ⟨_, rfl, hR5, rfl, ?_, ?_⟩
  · rintro j (rfl | rfl | rfl | hj)
    · exact .inl (.inl rfl)
    · exact .inl (.inr (.inl rfl))
    · exact .inl (.inr (.inr (.inl rfl)))
    · rcases h5 j hj.symm with h | h
      · exact .inl (.inr (.inr (.inr h.symm)))
      · exact .inr (by have := hK.size; omega)
  · exact (hK.trans hK5 (Z := foot F) (fun _ _ h => h) (fun _ _ e => .inr (.inr (.inr e)))).set (.inl rfl)
set_option maxHeartbeats 1000000 in
set_option maxRecDepth 100000 in
theorem put_any {base : Nat} {w : World} {F : Fp} {st : St} (h : Raw base w F st) (x : Int) (s : ByteArray) (hs : s.size ≤ maxTx) (hll : st.lo.length ≤ 1000000000) :
    Calls Tryd.prog 28 #[.pointer (some ⟨F.b, 0, none⟩), .int .i64 x, .string s] w (PlPost base F (putS st x s) (.int .i64 (putE st x s)) w) := by
  have HT := Lib.hid (there_any h x)
  have HB := Lib.hid (burn_any h)
  unfold maxTx at hs
  by_cases h0 : thereE st x = 0
  · by_cases hl : 64 < s.size
    · have e1 : putE st x s = 8 := by simp [putE, h0, hl]
      have e2 : putS st x s = st := by simp [putS, h0, hl]
      have hd : decide ((64 : Int) < (s.size : Int)) = true := by simp; omega
      rw [e1, e2]
      rw [h0] at HT
      have H := Lib.hid h
      clear e1 e2 h0 h
      go_enter Tryd.func28, Tryd.ntmps28
      go_wp2_with ((with_reducible refine (HT.out).mono ?_); rintro e w' ⟨rfl, rfl⟩)
      go_ret
      exact PlPost.same rfl H.out (Kept.refl _ _)
    · have hd : decide ((64 : Int) < (s.size : Int)) = false := by simp; omega
      by_cases hb : burnE st = 0
      · obtain ⟨k, rfl, hk, hoff⟩ := thereE_zero h0
        have e1 : putE st k s = 0 := by simp [putE, h0, hl, hb]
        have e2 : putS st k s = { burnS st with no := (burnS st).no.set k (pad s), lo := (burnS st).lo ++ [(k, pad s)] } := by simp [putS, h0, hl, hb]
        rw [e1, e2]
        rw [h0] at HT
        rw [hb] at HB
        have hk1 : k < (burnS st).no.length := by rw [burnS_same.2.1]; exact hk
        have hll1 : (burnS st).lo.length ≤ 1000000000 := by rw [burnS_same.2.2]; exact hll
        generalize burnS st = st1 at *
        have hs64 : s.size ≤ 64 := by omega
        have hn2 := h.n2
        have hk3 : k ≤ 8192 := by omega
        clear e1 e2 h0 hb h hoff hn2 hk hll
        go_enter Tryd.func28, Tryd.ntmps28
        go_wp2_with (first
          | ((with_reducible refine (HT.out).mono ?_); rintro e w' ⟨rfl, rfl⟩)
          | ((with_reducible refine (HB.out).mono ?_); rintro e w1 ⟨rfl, hR, hK⟩)
          | (refine wpList_build_wr rfl _ rfl k rfl ?_)
          | (refine wpList_alloc_wr rfl rfl ?_)
          | (refine wpList_store_wr rfl _ _ rfl rfl (k, zer) rfl zer_len ?_)
          | (refine wpList_copy_wr rfl _ _ rfl rfl s rfl hs64 k ?_))
        have hp64 := pad_len hs64
        obtain ⟨W2, hW2, HR2, hg2, hsz, hK2⟩ : ∃ W2, { (w1.alloc (.cells (wrCells (k, pad s)).toArray 89)) with drawn := (w1.alloc (.cells (wrCells (k, pad s)).toArray 89)).drawn + 1 } = W2 ∧ Raw base W2 F st1 ∧
            W2.heap[w1.heap.size]? = some (.cells (wrCells (k, pad s)).toArray 89 (0, 0)) ∧ W2.heap.size = w1.heap.size + 1 ∧ Kept (foot F) w W2 :=
          ⟨_, rfl, hR.below ((Below.refl _ w1).alloc (Nat.le_refl _) _).drew, heap_alloc_last w1 _, by simp, (foot_b hK).new.step (Below.refl _ _).drew⟩
        obtain ⟨q0, q1, q2, q3, q4⟩ := HR2.cells
        obtain ⟨z, hz⟩ := some_at (l := st1.no) (k := k) hk1
        obtain ⟨_, gs, _⟩ := own_sec HR2.own2 hz
        have hgm : w1.heap.size ≠ F.m := by have := hR.lt.2.2.1; omega
        have hgb : w1.heap.size ≠ F.b := by have := hR.lt.1; omega
        have hgl : ∀ j, F.lv.ownBlock = some j → j < w1.heap.size := hR.lt.2.2.2
        have hS := HR2.setN hk1 hp64
        have ho2 := heap_of_kept hS.2 (show ¬ w1.heap.size = F.m from hgm) hg2
        have gr2 := (row_at hg2 1 (Cs (pad s)) (by rfl))
        have HS := Lib.hid hS
        have HK2 := Lib.hid hK2
        have GT := Lib.hid gs
        have GR2 := Lib.hid gr2
        have HP := Lib.hid hp64
        have HG := Lib.hid ho2
        have hk4 : (k : Int) < (st1.no.length : Int) := by omega
        have HSZ := Lib.hid hsz
        clear hS hK2 gs hz HR2 hg2 gr2 hp64 hR ho2 hsz
        refine wp_region_still_tail 8 (by kernel_rfl) (by kernel_rfl) ?_
        rw [hW2]
        clear hW2
        simp only [List.take_succ_cons, List.take_zero, List.drop_succ_cons, List.drop_zero]
        repeat still_step
        refine wpStill_load_mid rfl 79 _ rfl w1.heap.size 1 rfl (Cs (pad s)) _ GR2.out u_sec rfl (cs_info _ HP.out) ?_
        repeat still_step
        refine wpStill_nil ?_
        refine wpList_store_mid rfl 79 _ _ rfl F.m (k * 64) (Cs (pad s)).toArray rfl rfl (by simpa [cs_len, HP.out] using GT.out) (by simpa using cs_info _ HP.out) (all_oneCell_toArray (cs_one _)) ?_
        go_wp2_with fail
        clear q0 q1 q2 q3 q4
        try simp only [List.toList_toArray]
        obtain ⟨W3, hW3⟩ : ∃ W3, W2.setCells F.m (k * 64) (Cs (pad s)) = W3 := ⟨_, rfl⟩
        have HS3 := HS.out
        have HG3 := HG.out
        rw [hW3] at HS3 HG3 ⊢
        clear HS HG hW3 GT GR2
        have hw3 := HK2.out.trans HS3.2 (Z := foot F) (fun _ _ h => h) (fun _ _ e => .inr (.inr (.inl e)))
        have HR3 := HS3.1
        obtain ⟨W4, hW4, HR4, HG4, hK4⟩ : ∃ W4, { W3 with drawn := W3.drawn + 1 } = W4 ∧ Raw base W4 F { st1 with no := st1.no.set k (pad s) } ∧
            W4.heap[w1.heap.size]? = some (.cells (wrCells (k, pad s)).toArray 89 (0, 0)) ∧ Kept (foot F) w W4 :=
          ⟨_, rfl, HR3.below (Below.refl _ _).drew, HG3, hw3.step (Below.refl _ _).drew⟩
        clear HS3 HG3 hw3 HR3
        have q2 := HR4.cells.2.2.1
        have f2 := HR4.free 2
        have q2a : (W4.alloc (.cells (wrCells (k, pad s)).toArray 89)).cell? ⟨F.b, 2, none⟩ = some F.lv := (((Below.refl _ W4).alloc (Nat.le_refl _) _).cell (p := ⟨F.b, 2, none⟩) HR4.lt.1).trans q2
        have gr4 := Lib.hid (row_at HG4 0 (wrCells (k, pad s)) rfl)
        obtain ⟨dw, hdw1, hdw2⟩ := u_wr
        have HU1 := Lib.hid hdw1
        have HU2 := Lib.hid hdw2
        have HR := Lib.hid HR4
        have HK4 := Lib.hid hK4
        have hb4 := HR4.own3
        obtain ⟨i0, hi, hz0, hz1, hz2⟩ := info_parts wr_row
        have HI := Lib.hid hi
        have HZ0 := Lib.hid hz0
        have HZ1 := Lib.hid hz1
        have HZ2 := Lib.hid hz2
        have hbs : base ≤ W4.heap.size := by have := HR4.bb; have := HR4.lt.1; omega
        clear hdw1 hdw2 HR4 hK4 HG4 hi hz0 hz1 hz2
        refine wp_region_any (by kernel_rfl) ?_
        rw [hW4]
        clear hW4
        refine' wpAny_take (i := 0) (v := _) rfl (by kernel_rfl) (by kernel_rfl) (by kernel_rfl) (fun _ _ _ h => h) (Or.inl ⟨by rfl, ?hy0⟩) ?rest0
        case hy0 => (intro w; go_simp; try with_reducible rfl)
        (try simp only [Act.put, List.setIfInBounds_toArray, List.set_cons_zero, List.set_cons_succ])
        refine' wpAny_take (i := 1) (v := _) rfl (by kernel_rfl) (by kernel_rfl) (by kernel_rfl) (fun _ _ _ h => h) (Or.inl ⟨by rfl, ?hy1⟩) ?rest1
        case hy1 => (intro w; go_simp; try with_reducible rfl)
        (try simp only [Act.put, List.setIfInBounds_toArray, List.set_cons_zero, List.set_cons_succ])
        refine' wpAny_take (i := 2) (v := _) rfl (by kernel_rfl) (by kernel_rfl) (by kernel_rfl) (fun _ _ _ h => h) (Or.inl ⟨by rfl, ?hy2⟩) ?rest2
        case hy2 => (intro w; go_simp; try with_reducible rfl)
        (try simp only [Act.put, List.setIfInBounds_toArray, List.set_cons_zero, List.set_cons_succ])
        refine' wpAny_take (i := 3) (v := _) rfl (by kernel_rfl) (by kernel_rfl) (by kernel_rfl) (fun _ _ _ h => h) (Or.inl ⟨by rfl, ?hy3⟩) ?rest3
        case hy3 => (intro w; go_simp; try with_reducible rfl)
        (try simp only [Act.put, List.setIfInBounds_toArray, List.set_cons_zero, List.set_cons_succ])
        refine wpAny_ready (rs := [4, 5]) (by kernel_rfl) (by simp) ?_
        refine AllReady.cons rfl (fun K hK => ?_) (AllReady.cons rfl (fun K hK => ?_) AllReady.nil)
        · (go_simp; refine hK _ _ ?_; clear hK K; (try simp only [Act.put, List.setIfInBounds_toArray, List.set_cons_zero, List.set_cons_succ]))
          refine wpAny_ready (rs := [5]) (by kernel_rfl) (by simp) ?_
          refine AllReady.cons rfl (fun K hK => ?_) AllReady.nil
          (rw [if_pos (by rfl)]; refine wp_load_mid 89 _ rfl w1.heap.size 0 rfl (wrCells (k, pad s)) dw gr4.out HU1.out HU2.out (wr_info _ HP.out) ?_; refine hK _ _ ?_; clear hK K; (try simp only [Act.put, List.setIfInBounds_toArray, List.set_cons_zero, List.set_cons_succ]))
          refine wpAny_ready (rs := [6]) (by kernel_rfl) (by simp) ?_
          refine AllReady.cons rfl (fun K hK => ?_) AllReady.nil
          (rw [if_pos (by rfl)]; refine wp_bs_wr _ rfl (k, pad s) HP.out rfl ?_; refine hK _ _ ?_; clear hK K; (try simp only [Act.put, List.setIfInBounds_toArray, List.set_cons_zero, List.set_cons_succ]))
          refine wpAny_ready (rs := [7]) (by kernel_rfl) (by simp) ?_
          refine AllReady.cons rfl (fun K hK => ?_) AllReady.nil
          (refine step_push rWr rfl _ _ 75 rfl base 89 i0 _ 72 Tryd.underlying75 HI.out HZ0.out HZ1.out HZ2.out (by rfl) (by decide) (fun _ => True) F.lv st1.lo rfl hb4 (wrCells (k, pad s)) (k, pad s) _ rfl rfl ⟨rfl, HP.out⟩ (wr_one _) (by unfold maxLen; omega) (by omega) hbs ?_; intro v5 w5 hO5 hK5 hw5; obtain ⟨ao5, cap5, rfl⟩ := hO5.form; rw [show (st1.lo ++ [(k, pad s)]).length = st1.lo.length + 1 by simp] at hO5 hw5 ⊢; refine hK _ _ ?_; clear hK K; (try simp only [Act.put, List.setIfInBounds_toArray, List.set_cons_zero, List.set_cons_succ]))
          have hc5 : w5.cell? ⟨F.b, 2, none⟩ = some F.lv := (hK5.cell (p := ⟨_, _, none⟩) HR.out.lt.1 (fun e => HR.out.a4 e.symm)).trans q2
          have hf5 : w5.frozen? ⟨F.b, 2, none⟩ = false := (hK5.frozen (p := ⟨_, _, none⟩) HR.out.lt.1 (fun e => HR.out.a4 e.symm)).trans f2
          refine wpAny_ready (rs := [8]) (by kernel_rfl) (by simp) ?_
          refine AllReady.cons rfl (fun K hK => ?_) AllReady.nil
          (go_simp; refine hK _ _ ?_; clear hK K; (try simp only [Act.put, List.setIfInBounds_toArray, List.set_cons_zero, List.set_cons_succ]))
          refine wpAny_ready (rs := [9]) (by kernel_rfl) (by simp) ?_
          refine AllReady.cons rfl (fun K hK => ?_) AllReady.nil
          (go_simp; refine hK _ _ ?_; clear hK K; (try simp only [Act.put, List.setIfInBounds_toArray, List.set_cons_zero, List.set_cons_succ]))
          refine wpAny_ready (rs := [10]) (by kernel_rfl) (by simp) ?_
          refine AllReady.cons rfl (fun K hK => ?_) AllReady.nil
          (go_simp; refine hK _ _ ?_; clear hK K; (try simp only [Act.put, List.setIfInBounds_toArray, List.set_cons_zero, List.set_cons_succ]))
          refine wpAny_done (by kernel_rfl) ?_ _
          go_wp2_with fail
          go_ret
          exact put_end HR.out HK4.out (k, pad s) hk1 (by simp) hO5 hK5 hw5
        · (rw [if_pos (by rfl)]; refine wp_load_mid 89 _ rfl w1.heap.size 0 rfl (wrCells (k, pad s)) dw gr4.out HU1.out HU2.out (wr_info _ HP.out) ?_; refine hK _ _ ?_; clear hK K; (try simp only [Act.put, List.setIfInBounds_toArray, List.set_cons_zero, List.set_cons_succ]))
          refine wpAny_ready (rs := [4, 6]) (by kernel_rfl) (by simp) ?_
          refine AllReady.cons rfl (fun K hK => ?_) (AllReady.cons rfl (fun K hK => ?_) AllReady.nil)
          · (go_simp; refine hK _ _ ?_; clear hK K; (try simp only [Act.put, List.setIfInBounds_toArray, List.set_cons_zero, List.set_cons_succ]))
            refine wpAny_ready (rs := [6]) (by kernel_rfl) (by simp) ?_
            refine AllReady.cons rfl (fun K hK => ?_) AllReady.nil
            (rw [if_pos (by rfl)]; refine wp_bs_wr _ rfl (k, pad s) HP.out rfl ?_; refine hK _ _ ?_; clear hK K; (try simp only [Act.put, List.setIfInBounds_toArray, List.set_cons_zero, List.set_cons_succ]))
            refine wpAny_ready (rs := [7]) (by kernel_rfl) (by simp) ?_
            refine AllReady.cons rfl (fun K hK => ?_) AllReady.nil
            (refine step_push rWr rfl _ _ 75 rfl base 89 i0 _ 72 Tryd.underlying75 HI.out HZ0.out HZ1.out HZ2.out (by rfl) (by decide) (fun _ => True) F.lv st1.lo rfl hb4 (wrCells (k, pad s)) (k, pad s) _ rfl rfl ⟨rfl, HP.out⟩ (wr_one _) (by unfold maxLen; omega) (by omega) hbs ?_; intro v5 w5 hO5 hK5 hw5; obtain ⟨ao5, cap5, rfl⟩ := hO5.form; rw [show (st1.lo ++ [(k, pad s)]).length = st1.lo.length + 1 by simp] at hO5 hw5 ⊢; refine hK _ _ ?_; clear hK K; (try simp only [Act.put, List.setIfInBounds_toArray, List.set_cons_zero, List.set_cons_succ]))
            have hc5 : w5.cell? ⟨F.b, 2, none⟩ = some F.lv := (hK5.cell (p := ⟨_, _, none⟩) HR.out.lt.1 (fun e => HR.out.a4 e.symm)).trans q2
            have hf5 : w5.frozen? ⟨F.b, 2, none⟩ = false := (hK5.frozen (p := ⟨_, _, none⟩) HR.out.lt.1 (fun e => HR.out.a4 e.symm)).trans f2
            refine wpAny_ready (rs := [8]) (by kernel_rfl) (by simp) ?_
            refine AllReady.cons rfl (fun K hK => ?_) AllReady.nil
            (go_simp; refine hK _ _ ?_; clear hK K; (try simp only [Act.put, List.setIfInBounds_toArray, List.set_cons_zero, List.set_cons_succ]))
            refine wpAny_ready (rs := [9]) (by kernel_rfl) (by simp) ?_
            refine AllReady.cons rfl (fun K hK => ?_) AllReady.nil
            (go_simp; refine hK _ _ ?_; clear hK K; (try simp only [Act.put, List.setIfInBounds_toArray, List.set_cons_zero, List.set_cons_succ]))
            refine wpAny_ready (rs := [10]) (by kernel_rfl) (by simp) ?_
            refine AllReady.cons rfl (fun K hK => ?_) AllReady.nil
            (go_simp; refine hK _ _ ?_; clear hK K; (try simp only [Act.put, List.setIfInBounds_toArray, List.set_cons_zero, List.set_cons_succ]))
            refine wpAny_done (by kernel_rfl) ?_ _
            go_wp2_with fail
            go_ret
            exact put_end HR.out HK4.out (k, pad s) hk1 (by simp) hO5 hK5 hw5
          · (rw [if_pos (by rfl)]; refine wp_bs_wr _ rfl (k, pad s) HP.out rfl ?_; refine hK _ _ ?_; clear hK K; (try simp only [Act.put, List.setIfInBounds_toArray, List.set_cons_zero, List.set_cons_succ]))
            refine wpAny_ready (rs := [4]) (by kernel_rfl) (by simp) ?_
            refine AllReady.cons rfl (fun K hK => ?_) AllReady.nil
            (go_simp; refine hK _ _ ?_; clear hK K; (try simp only [Act.put, List.setIfInBounds_toArray, List.set_cons_zero, List.set_cons_succ]))
            refine wpAny_ready (rs := [7]) (by kernel_rfl) (by simp) ?_
            refine AllReady.cons rfl (fun K hK => ?_) AllReady.nil
            (refine step_push rWr rfl _ _ 75 rfl base 89 i0 _ 72 Tryd.underlying75 HI.out HZ0.out HZ1.out HZ2.out (by rfl) (by decide) (fun _ => True) F.lv st1.lo rfl hb4 (wrCells (k, pad s)) (k, pad s) _ rfl rfl ⟨rfl, HP.out⟩ (wr_one _) (by unfold maxLen; omega) (by omega) hbs ?_; intro v5 w5 hO5 hK5 hw5; obtain ⟨ao5, cap5, rfl⟩ := hO5.form; rw [show (st1.lo ++ [(k, pad s)]).length = st1.lo.length + 1 by simp] at hO5 hw5 ⊢; refine hK _ _ ?_; clear hK K; (try simp only [Act.put, List.setIfInBounds_toArray, List.set_cons_zero, List.set_cons_succ]))
            have hc5 : w5.cell? ⟨F.b, 2, none⟩ = some F.lv := (hK5.cell (p := ⟨_, _, none⟩) HR.out.lt.1 (fun e => HR.out.a4 e.symm)).trans q2
            have hf5 : w5.frozen? ⟨F.b, 2, none⟩ = false := (hK5.frozen (p := ⟨_, _, none⟩) HR.out.lt.1 (fun e => HR.out.a4 e.symm)).trans f2
            refine wpAny_ready (rs := [8]) (by kernel_rfl) (by simp) ?_
            refine AllReady.cons rfl (fun K hK => ?_) AllReady.nil
            (go_simp; refine hK _ _ ?_; clear hK K; (try simp only [Act.put, List.setIfInBounds_toArray, List.set_cons_zero, List.set_cons_succ]))
            refine wpAny_ready (rs := [9]) (by kernel_rfl) (by simp) ?_
            refine AllReady.cons rfl (fun K hK => ?_) AllReady.nil
            (go_simp; refine hK _ _ ?_; clear hK K; (try simp only [Act.put, List.setIfInBounds_toArray, List.set_cons_zero, List.set_cons_succ]))
            refine wpAny_ready (rs := [10]) (by kernel_rfl) (by simp) ?_
            refine AllReady.cons rfl (fun K hK => ?_) AllReady.nil
            (go_simp; refine hK _ _ ?_; clear hK K; (try simp only [Act.put, List.setIfInBounds_toArray, List.set_cons_zero, List.set_cons_succ]))
            refine wpAny_done (by kernel_rfl) ?_ _
            go_wp2_with fail
            go_ret
            exact put_end HR.out HK4.out (k, pad s) hk1 (by simp) hO5 hK5 hw5
      · have e1 : putE st x s = burnE st := by simp [putE, h0, hl]
        have e2 : putS st x s = burnS st := by simp [putS, h0, hl, hb]
        rw [e1, e2]
        rw [h0] at HT
        have hne : (burnE st == 0) = false := by simpa using hb
        have hne2 : (burnE st != 0) = true := by simpa using hb
        generalize burnE st = y at *
        clear e1 e2 h0 hb h
        go_enter Tryd.func28, Tryd.ntmps28
        go_wp2_with (first
          | ((with_reducible refine (HT.out).mono ?_); rintro e w' ⟨rfl, rfl⟩)
          | ((with_reducible refine (HB.out).mono ?_); rintro e w' ⟨rfl, hR, hK⟩))
        go_ret
        exact PlPost.same rfl hR (foot_b hK)
  · have e1 : putE st x s = thereE st x := by simp [putE, h0]
    have e2 : putS st x s = st := by simp [putS, h0]
    rw [e1, e2]
    have hne : (thereE st x == 0) = false := by simpa using h0
    have hne2 : (thereE st x != 0) = true := by simpa using h0
    generalize thereE st x = y at *
    have H := Lib.hid h
    clear e1 e2 h0 h
    go_enter Tryd.func28, Tryd.ntmps28
    go_wp2_with ((with_reducible refine (HT.out).mono ?_); rintro e w' ⟨rfl, rfl⟩)
    go_ret
    exact PlPost.same rfl H.out (Kept.refl _ _)
end Go.Proofs.YtaljgcdjkmpljaaDoor
