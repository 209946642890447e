/- A keep's pairs as the law reads them. -/
import Derived.Test.YtdebfnlnpfienaaGreatDoorKeD
namespace Go.Proofs.YtdebfnlnpfienaaGreatDoor
open Go.RowKit Lift Go.Maps Go.Sort Go.Shelf
set_option linter.unusedSimpArgs false
set_option linter.unusedVariables false
attribute [local go_sem] Oper.semAt_some

def rKV : Lift.Rd KV := Lift.Rd.str.pair Lift.Rd.str
theorem kv_flat : Flat rKV := fun _ _ _ _ _ _ h => h
theorem kv_get {S : Nat → Prop} {w : World} {ao : Option Addr} {l : List KV} (h : SlAt rKV S w ao l) {k : Nat} {c : KV} (hk : l[k]? = some c) :
    ∃ b off, ao = some ⟨b, off, none⟩ ∧ S b ∧ b < w.heap.size ∧ c.1.size ≤ maxTx ∧ c.2.size ≤ maxTx ∧ w.cell? ⟨b, off + k * 2, none⟩ = some (.string c.1) ∧ w.cell? ⟨b, off + k * 2 + 1, none⟩ = some (.string c.2) := by
  obtain ⟨b, off, cs, rfl, hs, hlt, ⟨c1, c2, rfl, ⟨rfl, h1⟩, ⟨rfl, h2⟩⟩, hc⟩ := h.get hk
  exact ⟨b, off, rfl, hs, hlt, h1, h2, hc 0 _ rfl, hc 1 _ rfl⟩
theorem kv_rel (S : Nat → Prop) (w : World) (c : KV) (h1 : c.1.size ≤ maxTx) (h2 : c.2.size ≤ maxTx) : rKV.rel S w [.string c.1, .string c.2] c := ⟨[.string c.1], [.string c.2], rfl, ⟨rfl, h1⟩, ⟨rfl, h2⟩⟩
theorem kv_ones : ∀ S w cs (c : KV), rKV.rel S w cs c → ∀ u ∈ cs, u.oneCell' = true := by
  rintro S w cs c ⟨c1, c2, rfl, ⟨rfl, _⟩, ⟨rfl, _⟩⟩ u hu; simp at hu; rcases hu with rfl | rfl <;> rfl
/-- Pairs of whatever size. -/
def kvU : Lift.Rd KV where
  n := 2
  rel _ _ cs a := cs = [.string a.1, .string a.2]
  len := by rintro _ w cs a rfl; rfl
  mono := fun _ _ _ _ _ h _ => h
  kept := fun _ _ _ _ _ _ h _ _ => h
theorem kvU_flat : Flat kvU := fun _ _ _ _ _ _ h => h
theorem kvU_own {S : Nat → Prop} {w : World} {base : Nat} {e : TypeId} {v : Value} {l : List KV} (h : Lift.Own kvU S w base e v l) (hl : ∀ c ∈ l, c.1.size ≤ maxTx ∧ c.2.size ≤ maxTx) : Lift.Own rKV S w base e v l := by
  obtain ⟨xs, h1, css, h2, h3, h4⟩ := h
  refine ⟨xs, h1, css, h2, h3, fun k c hc => ?_⟩
  obtain ⟨cs, h5, rfl⟩ := h4 k c hc
  have := hl c (List.mem_of_getElem? hc)
  exact ⟨_, h5, kv_rel _ _ _ this.1 this.2⟩
theorem kv_info : (Tryz.prog.info? 72).map (fun i => (i.zero, i.size, i.bytes)) = some (some (.agg #[.string ByteArray.empty, .string ByteArray.empty]), 2, 32) := by kernel_rfl
set_option maxHeartbeats 4000000 in
set_option maxRecDepth 100000 in
theorem pairs_in {base : Nat} {w : World} {F : Fp} {st : St} {J : JF} {js : JSt} {K : KF} {ks : KSt} (n : Nat) (hn : 9 ≤ n) (h : KRaw base w F st J js K ks) (hsm : ks.kv.length < 1000) :
    CallsIn Fence.wide n Tryz.prog 9 #[.pointer (some ⟨K.b, 0, none⟩), .string ⟨#[]⟩, .int .i64 1000] w (fun e w' => ∃ v, e = .returned (.tuple #[v, .bool true]) ∧ Lift.Own rKV (fun _ => True) w' w.heap.size 72 v ks.kv ∧ Below w.heap.size w w') := by
  have h1 : 1 ≤ n := by omega
  have hlen : ks.kv.length ≤ 1000000 := Nat.le_trans h.kl h.cn
  have hsz := h.sz
  have hfR : Fence.wide.fn 25 := trivial
  obtain ⟨W1, hW1⟩ : ∃ W1, w.alloc (.cells #[.int .i64 1000] 3) = W1 := ⟨_, rfl⟩
  have hb1 : Below w.heap.size w W1 := by subst hW1; exact (Below.refl _ w).alloc (Nat.le_refl _) _
  have hs1 : W1.heap.size = w.heap.size + 1 := by subst hW1; simp
  have c1 : W1.cell? ⟨w.heap.size, 0, none⟩ = some (.int .i64 1000) := by subst hW1; simp [go_sem]
  have hnf : ∀ b c w, (binOp BinOp.eql 69 (Value.func (Fn.func 46) #[] #[Value.pointer (some ⟨b, 0, none⟩), Value.pointer (some ⟨c, 0, none⟩)]) Value.nilFunc).run Tryz.prog w = .ok (.bool false) w := fun B C w => by first | rfl | kernel_rfl
  have HE := Lib.hid (each_in (n - 1) K.b ⟨#[]⟩ W1)
  obtain ⟨i0, hi, hz0, hz1, hz2⟩ := info_parts kv_info
  have HI := Lib.hid hi; have HZ0 := Lib.hid hz0; have HZ1 := Lib.hid hz1; have HZ2 := Lib.hid hz2
  have H := Lib.hid h
  clear hi hz0 hz1 hz2 h
  refine callsIn_of_wp_marks Tryz.func9 rfl trivial ?_ rfl
  simp only [Tryz.ntmps9, List.size_toArray, List.length_cons, List.length_nil, Nat.reduceAdd, Nat.reduceSub, Array.replicate_succ, Array.replicate_zero, List.push_toArray, List.append_toArray, List.nil_append, List.cons_append]
  gi_wp2
  refine HE.out.mono ?_
  rintro e w2 ⟨rfl, rfl⟩
  rw [hs1]
  clear hW1 HE
  gi_wp2
  obtain ⟨W0, hW0⟩ : ∃ W0, ((W1.alloc (.cells #[.pointer (some ⟨K.b, 0, none⟩)] 28)).alloc (.cells #[.string ⟨#[]⟩] 9)).alloc (.cells #[.slice none 0 0] 33) = W0 := ⟨_, rfl⟩
  rw [hW0]
  have hb01 : Below W1.heap.size W1 W0 := by subst hW0; exact (((Below.refl _ _).alloc (Nat.le_refl _) _).alloc (by simp) _).alloc (by simp; omega) _
  have hsz0 : W0.heap.size = w.heap.size + 4 := by subst hW0; simp; omega
  have d0 : W0.cell? ⟨w.heap.size, 0, none⟩ = some (.int .i64 1000) := (hb01.cell (p := ⟨w.heap.size, 0, none⟩) (by simp; omega)).trans c1
  have d1 : W0.cell? ⟨w.heap.size + 1, 0, none⟩ = some (.pointer (some ⟨K.b, 0, none⟩)) := by subst hW0; rw [← hs1]; simp [go_sem]
  have d2 : W0.cell? ⟨w.heap.size + 1 + 1, 0, none⟩ = some (.string ⟨#[]⟩) := by subst hW0; rw [← hs1]; simp [go_sem]
  have hB0 : Below w.heap.size w W0 := chain hb1 hb01
  have hk0 : W0.heap[w.heap.size + 1 + 1 + 1]? = some (.cells #[.slice none 0 0] 33 (0, 0)) := by
    subst hW0
    have := heap_alloc_new ((W1.alloc (.cells #[.pointer (some ⟨K.b, 0, none⟩)] 28)).alloc (.cells #[.string ⟨#[]⟩] 9)) (.cells #[.slice none 0 0] 33)
    rw [World.size_alloc, World.size_alloc, hs1] at this
    exact this
  have hP : pref ⟨#[]⟩ ks.kv = ks.kv := List.filter_eq_self.2 (fun p _ => preB_empty _ _ rfl)
  have HST := Lib.hid (each_stops (n - 1) (by omega) (w.heap.size + 1) (w.heap.size + 1 + 1) ⟨#[]⟩ (by decide) (fun b => b = w.heap.size + 1 + 1 + 1 ∨ W0.heap.size ≤ b) (H.out.below hB0) (fun k hk => by
      rcases hk with hk | rfl | rfl
      · have := H.out.inb k hk; omega
      · omega
      · omega) (by omega) (by omega) d1 d2)
  rw [hP] at HST
  clear hW0 hb1 hb01 d1 d2 c1
  clear hs1 W1
  refine wpIn_rangeFunc_ownH (F := Fence.wide) rfl h1 (gf := 46) (lb := #[.pointer (some ⟨w.heap.size + 1, 0, none⟩), .pointer (some ⟨w.heap.size + 1 + 1, 0, none⟩)]) rfl trivial (enters_of Tryz.func46 (by kernel_rfl) rfl)
    HST.out keepE_t (fun W l o o' hl ho hc _ => ⟨kept_put W l o' (.inr hl), strRows_put W l o o' ho hc⟩) (Below.refl _ _) (fun _ => rfl)
    (fun pre W => Kept (fun b => b = w.heap.size + 1 + 1 + 1 ∨ W0.heap.size ≤ b) W0 W ∧ (∃ v, W.heap[w.heap.size + 1 + 1 + 1]? = some (.cells #[v] 33 (0, 0)) ∧ Lift.Own kvU (fun _ => True) W (w.heap.size + 4) 72 v pre))
    (fun c pre W => False)
    ?inv ?invx
    ⟨Kept.refl _ _, ⟨_, hk0, Lift.Own.nil _ _ _ _ _⟩⟩
    (fun x a' W => a' = { tmps := #[.pointer (some ⟨K.b, 0, none⟩), .string ⟨#[]⟩, .int .i64 1000, undef, undef, .pointer (some ⟨w.heap.size, 0, none⟩), .slice none 0 0, .bool false, .func (.func 46) #[] #[.pointer (some ⟨w.heap.size + 1, 0, none⟩), .pointer (some ⟨w.heap.size + 1 + 1, 0, none⟩)], .pointer (some ⟨w.heap.size + 1 + 1 + 1, 0, none⟩), .string x.1, .string x.2, .pointer (some ⟨K.b, 0, none⟩), .string ⟨#[]⟩, .func (.func 46) #[] #[.pointer (some ⟨w.heap.size + 1, 0, none⟩), .pointer (some ⟨w.heap.size + 1 + 1, 0, none⟩)], .func (.func 46) #[] #[.pointer (some ⟨w.heap.size + 1, 0, none⟩), .pointer (some ⟨w.heap.size + 1 + 1, 0, none⟩)], .bool false, .func (.func 46) #[] #[.pointer (some ⟨w.heap.size + 1, 0, none⟩), .pointer (some ⟨w.heap.size + 1 + 1, 0, none⟩)], .string x.1, .string x.2, undef, undef, undef, undef, undef, undef, undef, undef, undef, undef, undef], defers := [] })
    (fun x a' => fun _ _ _ _ h _ _ => h) ?assign ?body ?done ?stop
  case inv =>
    rintro pre W W' row ⟨hk, ⟨v, e1, hO⟩⟩ hg hr
    have hr2 : ∀ k, row = some k → ∃ o : Obj, W.heap[k]? = some o ∧ o.isCells = false := fun k e => (hr k e).2
    refine ⟨kept_t hk ((Kept.of_grown hg).wide (fun k _ e => .inr ((hr k e.symm).1))), ⟨v, ?_, own_kept_row kvU_flat hO hg hr2⟩⟩
    refine ((Kept.of_grown hg).block (w.heap.size + 1 + 1 + 1) (Array.getElem?_eq_some_iff.1 e1).1 (fun e => ?_)).trans e1
    obtain ⟨o, ho, hc⟩ := hr2 _ e.symm
    rw [e1] at ho; cases ho; cases hc
  case invx =>
    rintro c pre W W' row h _ _
    exact h
  case assign =>
    rintro lp pre x W Kx hI hK
    simp only [encKV]
    gi_wp2
    exact hK _ _ ((KeepsOthers.refl _).from _) ⟨Kept.refl _ _, fun _ _ _ h => h⟩ hI rfl
  case body =>
    rintro lp lw x a' W hlp hr ⟨hk, ⟨v, e1, hO⟩⟩ rfl hlen'
    have hWz := hk.size
    have hbl : w.heap.size + 1 + 1 + 1 < W.heap.size := by omega
    have hpl : lw.length < 1000 := by omega
    obtain ⟨ao2, cap2, rfl⟩ := hO.form
    have hlt := Lib.hid hO.lt
    have f0 := (hk.cell (p := ⟨w.heap.size, 0, none⟩) (by simp; omega) (by simp; omega)).trans d0
    have f1 : W.cell? ⟨w.heap.size + 1 + 1 + 1, 0, none⟩ = some (.slice ao2 lw.length cap2) := by rw [Lib.cell_of_heap e1]; rfl
    have E1 := Lib.hid e1
    have hne : ¬ (lw.length : Int) = 1000 := by omega
    clear hr e1 d0
    gi_wp2_with (first | (gi_at_builtin; refine wpListIn_push kvU rfl _ _ 33 rfl (w.heap.size + 4) 72 i0 _ 32 Tryz.underlying33 HI.out HZ0.out HZ1.out HZ2.out rfl (by decide) (fun _ => True) _ lw rfl hO [.string x.1, .string x.2] x _ rfl (by simp) rfl (by simp [Value.oneCell']) (by unfold maxLen; omega) (by omega) (by omega) ?_; intro v2 w2 hO2 hK2 hw2; obtain ⟨ao3, cap3, rfl⟩ := hO2.form; have m0 : w2.heap[w.heap.size + 1 + 1 + 1]? = some (.cells #[.slice ao2 lw.length cap2] 33 (0, 0)) := (hK2.block (w.heap.size + 1 + 1 + 1) hbl (fun e => by have := (hlt.out _ e.symm).1; omega)).trans E1.out; have m1 := (show w2.cell? ⟨w.heap.size + 1 + 1 + 1, 0, none⟩ = some (.slice ao2 lw.length cap2) by rw [Lib.cell_of_heap m0]; rfl); have m2 := Lib.frozen_of_heap m0 0; have M0 := Lib.hid m0; clear m0))
    have hz2 := hK2.size
    have hbig : ∀ k, some k = (Value.slice ao2 lw.length cap2).ownBlock → w.heap.size + 4 ≤ k := fun k e => (hlt.out k e.symm).1
    have hO3 : Lift.Own kvU (fun _ => True) (w2.setCell ⟨w.heap.size + 1 + 1 + 1, 0, none⟩ (.slice ao3 (lw.length + 1) cap3)) (w.heap.size + 4) 72 (.slice ao3 (lw.length + 1) cap3) (lw ++ [x]) := by
      have h := hO2.low kvU_flat ((Kept.setCell (X := (· = w.heap.size + 1 + 1 + 1)) w2 (p := ⟨w.heap.size + 1 + 1 + 1, 0, none⟩) rfl (.slice ao3 (lw.length + 1) cap3)).wide (fun k _ e => by omega))
      rw [List.length_append, List.length_singleton] at h
      exact h
    have hk2 : KeepE (fun b => b = w.heap.size + 1 + 1 + 1 ∨ W0.heap.size ≤ b) W (w2.setCell ⟨w.heap.size + 1 + 1 + 1, 0, none⟩ (.slice ao3 (lw.length + 1) cap3)) :=
      ⟨kept_t (hK2.wide (fun k _ e => .inr (by have := hbig k e; omega))) (Kept.setCell (X := fun b => b = w.heap.size + 1 + 1 + 1 ∨ W0.heap.size ≤ b) _ (p := ⟨w.heap.size + 1 + 1 + 1, 0, none⟩) (.inl rfl) _), (strRows_push (by decide) hO hK2).trans (strRows_set M0.out (by decide))⟩
    refine ⟨((keeps_own hO hK2).trans (KeepsOthers.setCell _ _ _)).from _, hk2, kept_t hk hk2.1, ⟨_, ?_, hO3⟩⟩
    simp [World.setCell, Array.getElem?_modify, M0.out]
  case done =>
    rintro D ys W hD rfl ⟨hk, ⟨v, e1, hO⟩⟩ hK
    have hWz := hk.size
    have hOO := kvU_own hO (fun p hp => by
      have := hsz p hp
      exact ⟨by unfold maxTx; omega, by unfold maxTx; omega⟩)
    have hB := hB0.trans (hk.below (show w.heap.size ≤ W0.heap.size by omega) (fun b hb => by omega))
    obtain ⟨ao2, cap2, rfl⟩ := hOO.form
    have f1 : W.cell? ⟨w.heap.size + 1 + 1 + 1, 0, none⟩ = some (.slice ao2 ks.kv.length cap2) := by rw [Lib.cell_of_heap e1]; rfl
    clear hO e1 HST hP d0
    gi_wp2
    refine ⟨by simp, .inl ⟨_, _, rfl, run_takeDeferred hK, ?_⟩⟩
    exact ⟨.tuple #[.slice ao2 ks.kv.length cap2, .bool true], by simp [results, Tryz.f9, go_sem], _, rfl, (own_kept_row kv_flat hOO (grownBy_putObj' _ D (.deferred none)) (fun r e => by cases e; exact ⟨_, hK, rfl⟩)).rebase (by omega), hB.trans (belowK_b (w := w) (Nat.le_refl _) W D (.deferred (some [])) (.deferred none) (by omega) hK rfl rfl)⟩
  case stop =>
    rintro D c pre W hD hpre h hK
    exact h.elim
theorem pairs_any {base : Nat} {w : World} {F : Fp} {st : St} {J : JF} {js : JSt} {K : KF} {ks : KSt} (h : KRaw base w F st J js K ks) (hsm : ks.kv.length < 1000) :
    Calls Tryz.prog 9 #[.pointer (some ⟨K.b, 0, none⟩), .string ⟨#[]⟩, .int .i64 1000] w (fun e w' => ∃ v, e = .returned (.tuple #[v, .bool true]) ∧ Lift.Own rKV (fun _ => True) w' w.heap.size 72 v ks.kv ∧ Below w.heap.size w w') :=
  callsIn_wide.1 (pairs_in 9 (by omega) h hsm)
end Go.Proofs.YtdebfnlnpfienaaGreatDoor

/- The law's own: some, samePairs, behind. -/
namespace Go.Proofs.YtdebfnlnpfienaaGreatDoor
open Go.RowKit Lift Go.Maps
set_option linter.unusedSimpArgs false
set_option linter.unusedVariables false

def SomePost (n : Nat) (w : World) (e : Ending) (w' : World) : Prop := ∃ b, e = .returned (.bool b) ∧ (b = true → n ≤ 502) ∧ Below w.heap.size w w'
set_option maxHeartbeats 2000000 in
set_option maxRecDepth 100000 in
theorem some_any (ao : Option Addr) (cap : Nat) (l : List KW) (w : World) (hl : SlAt rKw (· < w.heap.size) w ao l) (hlen : l.length ≤ maxLen) :
    Calls Tryz.prog 8 #[.slice ao l.length cap] w (SomePost l.length w) := by
  unfold maxLen at hlen
  go_enter Tryz.func8, Tryz.ntmps8
  go_wp2_with fail
  go_loopw [3, 4] (fun vn v wr => ∃ k n : Nat, k ≤ l.length ∧ k ≤ 502 ∧ v = .int .i64 k ∧ vn = .int .i64 n ∧ n ≤ 12000 ∧ Below w.heap.size w wr) (fun _ v _ => l.length - (intOf v).toNat)
  case atStart => exact ⟨0, 0, Nat.zero_le _, by omega, rfl, rfl, by omega, Below.refl _ _⟩
  case round =>
    obtain ⟨k, n, hk, hk5, rfl, rfl, hn, hB⟩ := hrel
    by_cases hkl : k < l.length
    · obtain ⟨c, hcl⟩ := some_at hkl
      obtain ⟨b, off, rfl, _, hlt, s1, s2, y0, y1, y2⟩ := kw_get (hl.old hB) hcl
      have hkl2 : (k : Int) < (l.length : Int) := by omega
      unfold maxTx at s1 s2
      obtain ⟨ck, cv, cg⟩ := c
      simp only at y0 y1 y2 s1 s2
      have mixed : Tryz.prog.follows .mixedOrders = true := by kernel_rfl
      clear hl
      go_wp2_with fail
      (refine wp_region_quiet_lit (by kernel_rfl) (by kernel_rfl) ?_; (repeat (any_goals (first | go_big_quiet_step (fail) | quiet_step (fail) | (refine wpQuiet_step (fun K hK => ?_); go_simp; split <;> (refine hK _ ?_; clear hK K))))); all_goals (refine wpQuiet_nil ?_; intro _ hw'; obtain ⟨nq, hw''⟩ := hw'; subst hw''))
      go_wp2_with fail
      all_goals first
        | (go_ret
           exact ⟨false, rfl, (fun h => by cases h), below_drewN hB _⟩)
        | (refine ⟨⟨k + 1, n + ck.size + cv.size, by omega, by omega, by go_num, by go_num, by omega, below_drewN hB _⟩, ?_⟩
           simp [intOf]; omega)
    · obtain rfl : k = l.length := by omega
      go_wp2_with fail
      go_ret
      exact ⟨true, rfl, fun _ => hk5, hB⟩

theorem kv_equal (a b c d : ByteArray) (w : World) : (binOp BinOp.neq 72 (.agg #[.string a, .string b]) (.agg #[.string c, .string d])).run Tryz.prog w = .ok (.bool (!decide ((a, b) = (c, d)))) w := by
  have h1 := beq_bytes a c
  have h2 := beq_bytes b d
  rw [run_neq_struct, show (10000 : Nat) = 9999 + 1 from rfl, run_equalIn_agg w 9999 _ _ _ (by kernel_rfl) (by kernel_rfl)]
  simp [Program.fieldsOf, Tryz.underlying72, Op.eqFields, go_sem]
  have e1 : (a.toList = c.toList) ↔ (a = c) := by rw [← beq_iff_eq (a := a.toList), h1, decide_eq_true_iff]
  have e2 : (b.toList = d.toList) ↔ (b = d) := by rw [← beq_iff_eq (a := b.toList), h2, decide_eq_true_iff]
  simp only [e1, e2]
  by_cases q1 : a = c <;> by_cases q2 : b = d <;> simp [q1, q2]
theorem kv_guard (x y : Operand) (xs ys : Array Value) (w : World) : (eqGuard BinOp.neq 72 x y (.agg xs) (.agg ys)).run Tryz.prog w = .ok () w := run_eqGuard_agg w _ _ _ _ _ _ (by kernel_rfl)
set_option maxHeartbeats 2000000 in
set_option maxRecDepth 100000 in
theorem same_any (ao bo : Option Addr) (cap cap2 : Nat) (l m : List KV) (w : World) (hl : SlAt rKV (· < w.heap.size) w ao l) (hm : SlAt rKV (· < w.heap.size) w bo m) (hlen : l.length ≤ 1000000) :
    Calls Tryz.prog 11 #[.slice ao l.length cap, .slice bo m.length cap2] w (BelowPost (.bool (decide (l = m))) w) := by
  by_cases hlm : l.length = m.length
  · have hne : ((l.length : Int) != (m.length : Int)) = false := by simp [hlm]
    have HLM := Lib.hid hlm
    clear hlm
    go_enter Tryz.func11, Tryz.ntmps11
    go_wp2_with fail
    clear hne
    go_loopw [5] (fun v wr => ∃ k : Nat, k ≤ l.length ∧ v = .int .i64 k ∧ Hid (l.take k = m.take k) ∧ Below w.heap.size w wr) (fun v _ => l.length - (intOf v).toNat)
    case atStart => exact ⟨0, Nat.zero_le _, rfl, Lib.hid (by simp), Below.refl _ _⟩
    case round =>
      obtain ⟨k, hk, rfl, HE, hB⟩ := hrel
      by_cases hkl : k < l.length
      · obtain ⟨c, hcl⟩ := some_at hkl
        obtain ⟨d, hdm⟩ := some_at (l := m) (k := k) (by have := HLM.out; omega)
        obtain ⟨b, off, rfl, _, hlt, _, _, y0, y1⟩ := kv_get (hl.old hB) hcl
        obtain ⟨b2, off2, rfl, _, hlt2, _, _, z0, z1⟩ := kv_get (hm.old hB) hdm
        have hkl2 : (k : Int) < (l.length : Int) := by omega
        have hkl3 : k < m.length := by have := HLM.out; omega
        have hkl4 : (k : Int) < (m.length : Int) := by omega
        have HC := Lib.hid hcl
        have HD := Lib.hid hdm
        obtain ⟨c0, c1⟩ := c
        obtain ⟨d0, d1⟩ := d
        simp only at y0 y1 z0 z1
        clear hl hm hcl hdm
        have hgd := kv_guard
        have hq := kv_equal c0 c1 d0 d1
        obtain ⟨f, hf⟩ : ∃ f, decide ((c0, c1) = (d0, d1)) = f := ⟨_, rfl⟩
        rw [hf] at hq
        cases f with
        | false =>
          go_wp2_with fail
          (refine wp_region_quiet_lit (by kernel_rfl) (by kernel_rfl) ?_; (repeat (any_goals (first | go_big_quiet_step (fail) | quiet_step (fail) | (refine wpQuiet_step (fun K hK => ?_); go_simp; split <;> (refine hK _ ?_; clear hK K))))); all_goals (refine wpQuiet_nil ?_; intro _ hw'; obtain ⟨nq, hw''⟩ := hw'; subst hw''))
          go_wp2_with fail
          go_ret
          refine ⟨?_, below_drewN hB _⟩
          rw [decide_eq_false (ne_at HC.out HD.out (of_decide_eq_false hf))]; rfl
        | true =>
          go_wp2_with fail
          (refine wp_region_quiet_lit (by kernel_rfl) (by kernel_rfl) ?_; (repeat (any_goals (first | go_big_quiet_step (fail) | quiet_step (fail) | (refine wpQuiet_step (fun K hK => ?_); go_simp; split <;> (refine hK _ ?_; clear hK K))))); all_goals (refine wpQuiet_nil ?_; intro _ hw'; obtain ⟨nq, hw''⟩ := hw'; subst hw''))
          go_wp2_with fail
          go_roundw
          case measure => simp [intOf]; omega
          case rel => exact ⟨k + 1, by omega, by go_num, Lib.hid (take_same HE.out HC.out HD.out (of_decide_eq_true hf)), below_drewN hB _⟩
      · obtain rfl : k = l.length := by omega
        go_wp2_with fail
        go_ret
        refine ⟨?_, hB⟩
        have hfin := HE.out
        rw [List.take_length, HLM.out, List.take_length] at hfin
        rw [decide_eq_true hfin]
        rfl
  · have hx : ¬ (l.length : Int) = (m.length : Int) := by omega
    go_enter Tryz.func11, Tryz.ntmps11
    go_wp2_with fail
    go_ret
    exact ⟨by rw [decide_eq_false (fun e => hlm (by rw [e]))]; rfl, Below.refl _ _⟩
end Go.Proofs.YtdebfnlnpfienaaGreatDoor
