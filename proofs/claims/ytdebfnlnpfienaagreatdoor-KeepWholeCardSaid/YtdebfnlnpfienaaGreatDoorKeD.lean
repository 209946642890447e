/- A keep's iterator. -/
import Derived.Test.YtdebfnlnpfienaaGreatDoorKeC
import Derived.Test.YtdebfnlnpfienaaGreatDoorJnAp
import Derived.Test.YtdebfnlnpfienaaGreatDoorOrdTail
namespace Go.Proofs.YtdebfnlnpfienaaGreatDoor
open Go.RowKit Lift Go.Maps Go.Sort Go.Shelf
set_option linter.unusedSimpArgs false
set_option linter.unusedVariables false
attribute [local go_sem] Oper.semAt_some

def encKV (x : KV) : Array Value := #[.string x.1, .string x.2]
/-- Rows of texts stand. -/
def StrRows (W W' : World) : Prop := ∀ (k : Nat) (c : Array Value) (z : Nat × Nat), W.heap[k]? = some (.cells c 9 z) → W'.heap[k]? = some (.cells c 9 z)
def KeepE (X : Nat → Prop) (W W' : World) : Prop := Kept X W W' ∧ StrRows W W'
theorem keepE_t {X : Nat → Prop} {A B C : World} (h : KeepE X A B) (k : KeepE X B C) : KeepE X A C := ⟨kept_t h.1 k.1, fun i c z hi => k.2 i c z (h.2 i c z hi)⟩
theorem KeepE.own {X : Nat → Prop} {W W' : World} (h : KeepE X W W') {base : Nat} {v : Value} {l : List ByteArray} (hO : Lift.Own Rd.str (fun _ => True) W base 9 v l) : Lift.Own Rd.str (fun _ => True) W' base 9 v l := by
  have hK : Kept (fun k => X k ∧ some k ≠ v.ownBlock) W W' := ⟨h.1.os, h.1.tape, h.1.output, h.1.size, fun k hk hn => by
    by_cases hx : X k
    · by_cases e : some k = v.ownBlock
      · obtain ⟨xs, h1, _⟩ := hO
        rcases h1.2 with ⟨rfl, _⟩ | ⟨g, cap, cur, rfl, _, hgg, _⟩
        · cases e
        · obtain rfl : k = g := by injection e
          rw [hgg]; exact h.2 _ _ _ hgg
      · exact absurd ⟨hx, e⟩ hn
    · exact h.1.block k hk hx⟩
  exact hO.flat str_flat hK (fun k hk hx => hx.2 hk.symm)
theorem smap_run {w : World} {mb n : Nat} {f : ByteArray → Option ByteArray} (h : SMap Tryz.prog 9 9 w mb n f) (key : ByteArray) (hk : key.size ≤ maxLen) (w2 : World) (hw : w2 = w) :
    (Instr.lookup 66 (.map (some mb)) (.string key) false).run Tryz.prog w2 = .ok (.string ((f key).getD ByteArray.empty)) w2 := by
  subst hw
  obtain ⟨D, h1, h2⟩ := h
  obtain ⟨v, ps, hrun, hv⟩ := h1.lookup (string_keyed Tryz.underlying9) Tryz.underlying66 (zero_str w2) (plainElem_string Tryz.underlying9 (s := ByteArray.empty) (by simp [maxLen])) (WideMaps.keyOf_string_mk Tryz.underlying9 hk)
  obtain ⟨c, rfl, hc, hwc⟩ := plainElem_string_inv Tryz.underlying9 hv
  obtain ⟨_, h4⟩ := h2 key hk
  have h5 : D.atKey (.string key.data.toList) (.lit (.string [])) = .lit (.string c.data.toList) := congrArg Prod.fst hc
  rw [h4] at h5
  simp only [DataW.lit.injEq, Lit.string.injEq] at h5
  have h6 : (f key).getD ByteArray.empty = c := ByteArray.ext (Array.toList_inj.1 h5)
  rw [h6]; exact hrun
theorem below_grown {w w' : World} (h : Below w.heap.size w w') : w.grownBy w' none := ⟨h.os, h.tape, h.output, h.size, fun k hk _ => h.block k hk⟩
theorem each_in (n : Nat) (b : Nat) (begin : ByteArray) (w : World) :
    CallsIn Fence.wide n Tryz.prog 25 #[.pointer (some ⟨b, 0, none⟩), .string begin] w fun e w' => e = .returned (.func (.func 46) #[] #[.pointer (some ⟨w.heap.size, 0, none⟩), .pointer (some ⟨w.heap.size + 1, 0, none⟩)]) ∧ w' = (w.alloc (.cells #[.pointer (some ⟨b, 0, none⟩)] 28)).alloc (.cells #[.string begin] 9) := by
  refine callsIn_of_wp Tryz.func25 rfl trivial ?_ rfl
  simp only [Tryz.ntmps25, List.size_toArray, List.length_cons, List.length_nil, Nat.reduceAdd, Nat.reduceSub, Array.replicate_succ, Array.replicate_zero, List.push_toArray, List.append_toArray, List.nil_append, List.cons_append]
  gi_wp2
  go_ret
  exact ⟨rfl, rfl⟩
def pref (begin : ByteArray) (L : List KV) : List KV := L.filter (fun p => preB p.1 begin)
theorem pref_snoc {begin : ByteArray} {L : List KV} {k : Nat} {p : KV} (h : L[k]? = some p) : pref begin (L.take (k + 1)) = if preB p.1 begin then pref begin (L.take k) ++ [p] else pref begin (L.take k) := by
  unfold pref
  rw [take_at2 h, List.filter_append]
  by_cases hp : preB p.1 begin = true
  · rw [if_pos hp]; simp [hp]
  · rw [if_neg hp]; simp [hp]
theorem pref_take (begin : ByteArray) (L : List KV) (k : Nat) : pref begin (L.take k) <+: pref begin L := by
  refine ⟨pref begin (L.drop k), ?_⟩
  unfold pref
  rw [← List.filter_append, List.take_append_drop]
theorem pref_lt {begin : ByteArray} {L : List KV} {k : Nat} {p : KV} (h : L[k]? = some p) (hp : preB p.1 begin = true) : (pref begin (L.take k)).length < (pref begin L).length := by
  have h1 := (pref_take begin L (k + 1)).length_le
  rw [pref_snoc h, if_pos hp, List.length_append] at h1
  simp at h1; omega
set_option maxRecDepth 100000 in
set_option maxHeartbeats 4000000 in
theorem each1_in {base : Nat} {W : World} {F : Fp} {st : St} {J : JF} {js : JSt} {K : KF} {ks : KSt} (n : Nat) (hn : 7 ≤ n) (lp b1 b2 : Nat) (begin : ByteArray) (hbg : begin.size ≤ 1000000) (X : Nat → Prop) (h : KRaw base W F st J js K ks)
    (hX : ∀ k, kfoot F J K k ∨ k = b1 ∨ k = b2 → ¬ X k) (hb1 : b1 < W.heap.size) (hb2 : b2 < W.heap.size) (I Ix : List KV → World → Prop) (hI : AbidesFrom W.heap.size I)
    (hY : ∀ pre x W1, I pre W1 → pre.length < (pref begin ks.kv).length → YieldAt Fence.wide (n - 1) Tryz.prog lp (encKV x) W1 fun e W' =>
      (e = .returned (.bool true) ∧ I (pre ++ [x]) W' ∧ KeepE X W1 W') ∨ (e = .returned (.bool false) ∧ Ix (pre ++ [x]) W'))
    (c1 : W.cell? ⟨b1, 0, none⟩ = some (.pointer (some ⟨K.b, 0, none⟩))) (c2 : W.cell? ⟨b2, 0, none⟩ = some (.string begin)) (h0 : I [] W) :
    CallsIn Fence.wide n Tryz.prog 46 #[.func (.yield lp) #[] #[], .pointer (some ⟨b1, 0, none⟩), .pointer (some ⟨b2, 0, none⟩)] W fun e W' => (∃ v, e = .returned v) ∧ ((∃ ys, ys = pref begin ks.kv ∧ I ys W') ∨ (∃ pre, pre <+: pref begin ks.kv ∧ Ix pre W')) := by
  have hsz := h.sz
  have hkl := h.kl
  have hcn := h.cn
  have HKs := Lib.hid (keys_call (some K.mb) W)
  have HSo := Lib.hid (sorted_call h.map h.rise (fun p hp => (h.sz p hp).1) h.cn)
  have H := Lib.hid h
  obtain ⟨k0, k1, k2, k3, k4⟩ := h.cells
  have HR := Lib.hid h.rise
  have h1 : 1 ≤ n := by omega
  have hf1 : Fence.wide.fn 48 := trivial
  have hf2 : Fence.wide.fn 47 := trivial
  have hf3 : Fence.wide.fn 49 := trivial
  have HC1 := Lib.hid c1
  have HC2 := Lib.hid c2
  have H0 := Lib.hid h0
  clear h h0
  refine callsIn_of_wp Tryz.func46 rfl trivial ?_ rfl
  simp only [Tryz.ntmps46, List.size_toArray, List.length_cons, List.length_nil, Nat.reduceAdd, Nat.reduceSub, Array.replicate_succ, Array.replicate_zero, List.push_toArray, List.append_toArray, List.nil_append, List.cons_append]
  gi_wp2
  refine (callsIn_wide.2 HKs.out).mono ?_
  rintro e W2 ⟨rfl, rfl⟩
  gi_wp2
  refine (callsIn_wide.2 HSo.out).mono ?_
  rintro e W3 ⟨ao, cap, rfl, hO, hB⟩
  gi_wp2
  have hB3 : Below W.heap.size W W3 := hB
  have HK3 := Lib.hid (H.out.below hB3)
  have HD1 := Lib.hid ((hB3.cell (p := ⟨b1, 0, none⟩) hb1).trans HC1.out)
  have HD2 := Lib.hid ((hB3.cell (p := ⟨b2, 0, none⟩) hb2).trans HC2.out)
  have HI3 : I [] W3 := hI [] W W3 none H0.out (below_grown hB3) (fun r e => by cases e)
  have HO := Lib.hid hO
  have hz3 := hB3.size
  clear HKs HSo k0 k1 k2 k3 k4 hO hB c1 c2
  gi_loopw [13] (fun v wr => ∃ k : Nat, k ≤ ks.kv.length ∧ v = .int .i64 k ∧ Hid (KRaw base wr F st J js K ks) ∧ Hid (wr.cell? ⟨b1, 0, none⟩ = some (.pointer (some ⟨K.b, 0, none⟩))) ∧ Hid (wr.cell? ⟨b2, 0, none⟩ = some (.string begin)) ∧ Hid (Lift.Own Rd.str (fun _ => True) wr W.heap.size 9 (.slice ao ks.kv.length cap) (ks.kv.map (·.1))) ∧ I (pref begin (ks.kv.take k)) wr ∧ Hid (b1 < wr.heap.size ∧ b2 < wr.heap.size)) (fun v _ => ks.kv.length - (intOf v).toNat)
  case atStart => exact ⟨0, Nat.zero_le _, rfl, HK3, HD1, HD2, HO, by simpa [pref] using HI3, Lib.hid ⟨by omega, by omega⟩⟩
  case round =>
    obtain ⟨k, hk, rfl, GK, G1, G2, GO, hIk, GB⟩ := hrel
    clear HK3 HD1 HD2 HI3 HO
    by_cases hkl : k < ks.kv.length
    · obtain ⟨p, hp⟩ := some_at hkl
      obtain ⟨b, off, rfl, _, hlt, hkz, y0⟩ := str_get GO.out.here (k := k) (c := p.1) (by rw [List.getElem?_map, hp]; rfl)
      have hkl2 : (k : Int) < (ks.kv.length : Int) := by omega
      have hps := hsz p (List.mem_of_getElem? hp)
      have HP := Lib.hid (fun w => hasPre_any p.1 begin (by omega) hbg w)
      have c2 := G2.out
      have c1 := G1.out
      obtain ⟨_, k1, _, _, _⟩ := GK.out.cells
      have hget : (kget ks.kv p.1).getD ByteArray.empty = p.2 := by rw [kget_some HR.out (List.mem_of_getElem? hp)]; rfl
      have HL := Lib.hid (fun w2 hw => smap_run GK.out.map p.1 (by unfold maxLen; omega) w2 hw)
      rw [hget] at HL
      have HS := Lib.hid (pref_snoc (begin := begin) hp)
      have HT := Lib.hid (pref_lt (begin := begin) hp)
      have HM := Lib.hid (pref_take begin ks.kv (k + 1))
      by_cases hpp : preB p.1 begin = true
      · obtain ⟨fn, tmps, assign, body, hy, hR⟩ := hY (pref begin (ks.kv.take k)) p wr hIk (HT.out hpp)
        rw [← (by rw [HS.out, if_pos hpp] : pref begin (ks.kv.take (k + 1)) = pref begin (ks.kv.take k) ++ [p])] at hR
        dsimp only [encKV] at hy
        have hlk := HL.out wr rfl
        gi_wp2
        refine (callsIn_wide.2 (HP.out _)).mono ?_
        rintro e w4 ⟨rfl, rfl⟩
        gi_wp2
        refine hR.mono ?_
        rintro e W4 (⟨rfl, hJ3, hk3⟩ | ⟨rfl, hJx3⟩)
        · have hz4 := hk3.1.size
          have GB2 := GB.out
          gi_wp2
          go_roundw
          case measure => simp [intOf]; omega
          case rel => exact ⟨k + 1, by omega, by go_num, Lib.hid (GK.out.kept hk3.1 (fun j hj => hX j (.inl hj))), Lib.hid ((hk3.1.cell (p := ⟨b1, 0, none⟩) GB2.1 (hX b1 (.inr (.inl rfl)))).trans G1.out), Lib.hid ((hk3.1.cell (p := ⟨b2, 0, none⟩) GB2.2 (hX b2 (.inr (.inr rfl)))).trans G2.out), Lib.hid (hk3.own GO.out), hJ3, Lib.hid ⟨by omega, by omega⟩⟩
        · gi_wp2
          refine bodyPost_ret (results_none rfl _ _ _) rfl ?_
          exact ⟨⟨_, rfl⟩, .inr ⟨_, HM.out, hJx3⟩⟩
      · have hpp2 : preB p.1 begin = false := by simpa using hpp
        have HIk : I (pref begin (ks.kv.take (k + 1))) wr := by rw [HS.out, if_neg hpp]; exact hIk
        gi_wp2
        refine (callsIn_wide.2 (HP.out _)).mono ?_
        rintro e w4 ⟨rfl, rfl⟩
        gi_wp2
        refine ⟨(fun f hf => nomatch hf), ?_⟩
        gi_wp2
        go_roundw
        case measure => simp [intOf]; omega
        case rel => exact ⟨k + 1, by omega, by go_num, GK, G1, G2, GO, HIk, GB⟩
    · obtain rfl : k = ks.kv.length := by omega
      rw [List.take_length] at hIk
      gi_wp2
      go_end0
      exact ⟨⟨_, rfl⟩, .inl ⟨_, rfl, hIk⟩⟩
end Go.Proofs.YtdebfnlnpfienaaGreatDoor

/- The record of all keys; its length. -/
namespace Go.Proofs.YtdebfnlnpfienaaGreatDoor
open Go.RowKit Lift Go.Maps Go.Sort Go.Shelf
set_option linter.unusedSimpArgs false
set_option linter.unusedVariables false
attribute [local go_sem] Oper.semAt_some

theorem each_stops {base : Nat} {w : World} {F : Fp} {st : St} {J : JF} {js : JSt} {K : KF} {ks : KSt} (n : Nat) (hn : 7 ≤ n) (b1 b2 : Nat) (begin : ByteArray) (hbg : begin.size ≤ 1000000) (X : Nat → Prop) (h : KRaw base w F st J js K ks)
    (hX : ∀ k, kfoot F J K k ∨ k = b1 ∨ k = b2 → ¬ X k) (hb1 : b1 < w.heap.size) (hb2 : b2 < w.heap.size)
    (c1 : w.cell? ⟨b1, 0, none⟩ = some (.pointer (some ⟨K.b, 0, none⟩))) (c2 : w.cell? ⟨b2, 0, none⟩ = some (.string begin)) :
    SeqStopsK Fence.wide n Tryz.prog 46 #[.pointer (some ⟨b1, 0, none⟩), .pointer (some ⟨b2, 0, none⟩)] encKV (KeepE X) (fun ys => ys = pref begin ks.kv) (fun pre => pre <+: pref begin ks.kv) (pref begin ks.kv).length w := fun lp I Ix W hW hI _ hY h0 =>
  each1_in n hn lp b1 b2 begin hbg X (h.below hW) hX (Nat.lt_of_lt_of_le hb1 hW.size) (Nat.lt_of_lt_of_le hb2 hW.size) I Ix hI hY ((hW.cell (p := ⟨b1, 0, none⟩) hb1).trans c1) ((hW.cell (p := ⟨b2, 0, none⟩) hb2).trans c2) h0
/-- Writes of whatever size. -/
def kwU : Lift.Rd KW where
  n := 3
  rel _ _ cs a := cs = [.string a.1, .string a.2.1, .bool a.2.2]
  len := by rintro _ w cs a rfl; rfl
  mono := fun _ _ _ _ _ h _ => h
  kept := fun _ _ _ _ _ _ h _ _ => h
theorem kwU_flat : Flat kwU := fun _ _ _ _ _ _ h => h
theorem kwU_own {S : Nat → Prop} {w : World} {base : Nat} {e : TypeId} {v : Value} {l : List KW} (h : Lift.Own kwU S w base e v l) (hl : ∀ c ∈ l, c.1.size ≤ maxTx ∧ c.2.1.size ≤ maxTx) : Lift.Own rKw S w base e v l := by
  obtain ⟨xs, h1, css, h2, h3, h4⟩ := h
  refine ⟨xs, h1, css, h2, h3, fun k c hc => ?_⟩
  obtain ⟨cs, h5, rfl⟩ := h4 k c hc
  have := hl c (List.mem_of_getElem? hc)
  exact ⟨_, h5, kw_rel _ _ _ this.1 this.2⟩
theorem kwU_ones : ∀ S w cs (c : KW), kwU.rel S w cs c → ∀ u ∈ cs, u.oneCell' = true := by
  rintro S w cs c rfl u hu; simp at hu; rcases hu with rfl | rfl | rfl <;> rfl
theorem kw_info : (Tryz.prog.info? 50).map (fun i => (i.zero, i.size, i.bytes)) = some (some (.agg #[.string ByteArray.empty, .string ByteArray.empty, .bool false]), 3, 40) := by kernel_rfl
/-- A row of whatever lies apart from rows of texts. -/
theorem strRows_push {α : Type} {r : Lift.Rd α} {S : Nat → Prop} {W w2 : World} {base : Nat} {e : TypeId} {v : Value} {l : List α} (he : e ≠ 9) (h : Lift.Own r S W base e v l) (hK : Kept (fun k => some k = v.ownBlock) W w2) : StrRows W w2 := by
  intro k c z hk
  by_cases ek : some k = v.ownBlock
  · exfalso
    obtain ⟨xs, h1, _⟩ := h
    rcases h1.2 with ⟨rfl, _⟩ | ⟨g, cap, cur, rfl, _, hgg, _⟩
    · cases ek
    · obtain rfl : k = g := by injection ek
      rw [hk] at hgg; cases hgg; exact he rfl
  · exact (hK.block k (Array.getElem?_eq_some_iff.1 hk).1 ek).trans hk
theorem strRows_set {W : World} {b o : Nat} {u : Value} {c0 : Array Value} {e : TypeId} {z0 : Nat × Nat} (hb : W.heap[b]? = some (.cells c0 e z0)) (he : e ≠ 9) : StrRows W (W.setCell ⟨b, o, none⟩ u) := by
  intro k c z hk
  by_cases ek : k = b
  · subst ek; rw [hk] at hb; cases hb; exact absurd rfl he
  · exact ((Kept.setCell (X := (· = b)) W (p := ⟨b, o, none⟩) rfl u).block k (Array.getElem?_eq_some_iff.1 hk).1 ek).trans hk
theorem StrRows.trans {A B C : World} (h : StrRows A B) (k : StrRows B C) : StrRows A C := fun i c z hi => k i c z (h i c z hi)
theorem strRows_put (W : World) (l : Nat) (o o' : Obj) (ho : W.heap[l]? = some o) (hc : o.isCells = false) : StrRows W (W.putObj l o') := by
  intro k c z hk
  by_cases ek : k = l
  · subst ek; rw [hk] at ho; cases ho; cases hc
  · exact ((Kept.of_grown (grownBy_putObj' W l o')).block k (Array.getElem?_eq_some_iff.1 hk).1 (fun e => ek (by cases e; rfl))).trans hk
set_option maxHeartbeats 4000000 in
set_option maxRecDepth 100000 in
theorem kall_in {base : Nat} {w : World} {F : Fp} {st : St} {J : JF} {js : JSt} {K : KF} {ks : KSt} (n : Nat) (hn : 9 ≤ n) (h : KRaw base w F st J js K ks) :
    CallsIn Fence.wide n Tryz.prog 56 #[.pointer (some ⟨K.b, 0, none⟩)] w (BelowPost (.string (allB ks.kv)) w) := by
  have h1 : 1 ≤ n := by omega
  have hlen : ks.kv.length ≤ 1000000 := Nat.le_trans h.kl h.cn
  have hsz := h.sz
  have hfR : Fence.wide.fn 25 := trivial
  have hfR2 : Fence.wide.fn 29 := trivial
  obtain ⟨W1, hW1⟩ : ∃ W1, w.alloc (.cells #[.slice none 0 0] 32) = W1 := ⟨_, rfl⟩
  have hb1 : Below w.heap.size w W1 := by subst hW1; exact (Below.refl _ w).alloc (Nat.le_refl _) _
  have hs1 : W1.heap.size = w.heap.size + 1 := by subst hW1; simp
  have hk1 : W1.heap[w.heap.size]? = some (.cells #[.slice none 0 0] 32 (0, 0)) := by subst hW1; exact heap_alloc_new w _
  have hnf : ∀ b c w, (binOp BinOp.eql 69 (Value.func (Fn.func 46) #[] #[Value.pointer (some ⟨b, 0, none⟩), Value.pointer (some ⟨c, 0, none⟩)]) Value.nilFunc).run Tryz.prog w = .ok (.bool false) w := fun B C w => by first | rfl | kernel_rfl
  have HE := Lib.hid (each_in (n - 1) K.b ⟨#[]⟩ W1)
  obtain ⟨i0, hi, hz0, hz1, hz2⟩ := info_parts kw_info
  have HI := Lib.hid hi; have HZ0 := Lib.hid hz0; have HZ1 := Lib.hid hz1; have HZ2 := Lib.hid hz2
  have H := Lib.hid h
  have HK1 := Lib.hid hk1
  clear hi hz0 hz1 hz2 h hk1
  refine callsIn_of_wp_marks Tryz.func56 rfl trivial ?_ rfl
  simp only [Tryz.ntmps56, List.size_toArray, List.length_cons, List.length_nil, Nat.reduceAdd, Nat.reduceSub, Array.replicate_succ, Array.replicate_zero, List.push_toArray, List.append_toArray, List.nil_append, List.cons_append]
  gi_wp2
  refine HE.out.mono ?_
  rintro e w2 ⟨rfl, rfl⟩
  gi_wp2
  obtain ⟨W0, hW0⟩ : ∃ W0, (W1.alloc (.cells #[.pointer (some ⟨K.b, 0, none⟩)] 28)).alloc (.cells #[.string ⟨#[]⟩] 9) = W0 := ⟨_, rfl⟩
  rw [hW0]
  have hb01 : Below W1.heap.size W1 W0 := by subst hW0; exact ((Below.refl _ _).alloc (Nat.le_refl _) _).alloc (by simp) _
  have hsz0 : W0.heap.size = w.heap.size + 3 := by subst hW0; simp; omega
  have d1 : W0.cell? ⟨w.heap.size + 1, 0, none⟩ = some (.pointer (some ⟨K.b, 0, none⟩)) := by subst hW0; rw [← hs1]; simp [go_sem]
  have d2 : W0.cell? ⟨w.heap.size + 1 + 1, 0, none⟩ = some (.string ⟨#[]⟩) := by subst hW0; rw [← hs1]; simp [go_sem]
  have hB0 : Below w.heap.size w W0 := chain hb1 hb01
  have hk0 : W0.heap[w.heap.size]? = some (.cells #[.slice none 0 0] 32 (0, 0)) := (hb01.block w.heap.size (by omega)).trans HK1.out
  have hP : pref ⟨#[]⟩ ks.kv = ks.kv := List.filter_eq_self.2 (fun p _ => preB_empty _ _ rfl)
  have HST := Lib.hid (each_stops (n - 1) (by omega) (w.heap.size + 1) (w.heap.size + 1 + 1) ⟨#[]⟩ (by decide) (fun b => b = w.heap.size ∨ W0.heap.size ≤ b) (H.out.below hB0) (fun k hk => by
      rcases hk with hk | rfl | rfl
      · have := H.out.inb k hk; omega
      · omega
      · omega) (by omega) (by omega) d1 d2)
  rw [hP] at HST
  clear hW0 hb1 hb01 HE HK1 d1 d2 hW1
  clear hs1 W1
  refine wpIn_rangeFunc_ownH (F := Fence.wide) rfl h1 (gf := 46) (lb := #[.pointer (some ⟨w.heap.size + 1, 0, none⟩), .pointer (some ⟨w.heap.size + 1 + 1, 0, none⟩)]) rfl trivial (enters_of Tryz.func46 (by kernel_rfl) rfl)
    HST.out keepE_t (fun W l o o' hl ho hc _ => ⟨kept_put W l o' (.inr hl), strRows_put W l o o' ho hc⟩) (Below.refl _ _) (fun _ => rfl)
    (fun pre W => Kept (fun b => b = w.heap.size ∨ W0.heap.size ≤ b) W0 W ∧ (∃ v, W.heap[w.heap.size]? = some (.cells #[v] 32 (0, 0)) ∧ Lift.Own kwU (fun _ => True) W (w.heap.size + 3) 50 v (pre.map asPut)))
    (fun c pre W => False)
    ?inv ?invx
    ⟨Kept.refl _ _, ⟨_, hk0, Lift.Own.nil _ _ _ _ _⟩⟩
    (fun x a' W => a' = { tmps := #[.pointer (some ⟨K.b, 0, none⟩), undef, .string ⟨#[]⟩, .pointer (some ⟨w.heap.size, 0, none⟩), .string x.1, .string x.2, .pointer (some ⟨K.b, 0, none⟩), .func (.func 46) #[] #[.pointer (some ⟨w.heap.size + 1, 0, none⟩), .pointer (some ⟨w.heap.size + 1 + 1, 0, none⟩)], .string x.1, .string x.2, undef, undef, undef, undef, undef, undef, undef, undef], defers := [] })
    (fun x a' => fun _ _ _ _ h _ _ => h) ?assign ?body ?done ?stop
  case inv =>
    rintro pre W W' row ⟨hk, ⟨v, e1, hO⟩⟩ hg hr
    have hr2 : ∀ k, row = some k → ∃ o : Obj, W.heap[k]? = some o ∧ o.isCells = false := fun k e => (hr k e).2
    refine ⟨kept_t hk ((Kept.of_grown hg).wide (fun k _ e => .inr ((hr k e.symm).1))), ⟨v, ?_, own_kept_row kwU_flat hO hg hr2⟩⟩
    refine ((Kept.of_grown hg).block w.heap.size (Array.getElem?_eq_some_iff.1 e1).1 (fun e => ?_)).trans e1
    obtain ⟨o, ho, hc⟩ := hr2 _ e.symm
    rw [e1] at ho; cases ho; cases hc
  case invx =>
    rintro c pre W W' row h _ _
    exact h
  case assign =>
    rintro lp pre x W Kx hI hK
    simp only [encKV]
    gi_wp2
    exact hK _ _ ((KeepsOthers.refl _).from _) ⟨Kept.refl _ _, fun _ _ _ h => h⟩ hI rfl
  case body =>
    rintro lp pre x a' W hlp hr ⟨hk, ⟨v, e1, hO⟩⟩ rfl hlen'
    have hWz := hk.size
    have hbl : w.heap.size < W.heap.size := by omega
    have hpl : (pre.map asPut).length ≤ 1000000 := by rw [List.length_map]; omega
    have HX := Lib.hid (show (pre ++ [x]).map asPut = pre.map asPut ++ [asPut x] by simp)
    generalize pre.map asPut = lw at *
    obtain ⟨ao2, cap2, rfl⟩ := hO.form
    have hlt := Lib.hid hO.lt
    have f1 : W.cell? ⟨w.heap.size, 0, none⟩ = some (.slice ao2 lw.length cap2) := by rw [Lib.cell_of_heap e1]; rfl
    have E1 := Lib.hid e1
    clear hr e1
    gi_wp2_with (first | (gi_at_builtin; refine wpListIn_push kwU rfl _ _ 32 rfl (w.heap.size + 3) 50 i0 _ 40 Tryz.underlying32 HI.out HZ0.out HZ1.out HZ2.out rfl (by decide) (fun _ => True) _ lw rfl hO [.string x.1, .string x.2, .bool false] (asPut x) _ rfl (by simp) rfl (by simp [Value.oneCell']) (by unfold maxLen; omega) (by omega) (by omega) ?_; intro v2 w2 hO2 hK2 hw2; obtain ⟨ao3, cap3, rfl⟩ := hO2.form; have m0 : w2.heap[w.heap.size]? = some (.cells #[.slice ao2 lw.length cap2] 32 (0, 0)) := (hK2.block w.heap.size hbl (fun e => by have := (hlt.out _ e.symm).1; omega)).trans E1.out; have m1 := (show w2.cell? ⟨w.heap.size, 0, none⟩ = some (.slice ao2 lw.length cap2) by rw [Lib.cell_of_heap m0]; rfl); have m2 := Lib.frozen_of_heap m0 0; have M0 := Lib.hid m0; clear m0))
    have hz2 := hK2.size
    have hbig : ∀ k, some k = (Value.slice ao2 lw.length cap2).ownBlock → w.heap.size + 3 ≤ k := fun k e => (hlt.out k e.symm).1
    have hO3 : Lift.Own kwU (fun _ => True) (w2.setCell ⟨w.heap.size, 0, none⟩ (.slice ao3 (lw.length + 1) cap3)) (w.heap.size + 3) 50 (.slice ao3 (lw.length + 1) cap3) (lw ++ [asPut x]) := by
      have h := hO2.low kwU_flat ((Kept.setCell (X := (· = w.heap.size)) w2 (p := ⟨w.heap.size, 0, none⟩) rfl (.slice ao3 (lw.length + 1) cap3)).wide (fun k _ e => by omega))
      rw [List.length_append, List.length_singleton] at h
      exact h
    have hk2 : KeepE (fun b => b = w.heap.size ∨ W0.heap.size ≤ b) W (w2.setCell ⟨w.heap.size, 0, none⟩ (.slice ao3 (lw.length + 1) cap3)) :=
      ⟨kept_t (hK2.wide (fun k _ e => .inr (by have := hbig k e; omega))) (Kept.setCell (X := fun b => b = w.heap.size ∨ W0.heap.size ≤ b) _ (p := ⟨w.heap.size, 0, none⟩) (.inl rfl) _), (strRows_push (by decide) hO hK2).trans (strRows_set M0.out (by decide))⟩
    refine ⟨((keeps_own hO hK2).trans (KeepsOthers.setCell _ _ _)).from _, hk2, kept_t hk hk2.1, ⟨_, ?_, by rw [HX.out]; exact hO3⟩⟩
    simp [World.setCell, Array.getElem?_modify, M0.out]
  case done =>
    rintro D ys W hD rfl ⟨hk, ⟨v, e1, hO⟩⟩ hK
    have hWz := hk.size
    have hOO := kwU_own hO (fun c hc => by
      obtain ⟨p, hp, rfl⟩ := List.mem_map.1 hc
      have := hsz p hp
      exact ⟨by show p.1.size ≤ maxTx; unfold maxTx; omega, by show p.2.size ≤ maxTx; unfold maxTx; omega⟩)
    have hB := hB0.trans (hk.below (show w.heap.size ≤ W0.heap.size by omega) (fun b hb => by omega))
    have hll : (ks.kv.map asPut).length ≤ 1000000 := by rw [List.length_map]; exact hlen
    have hss : ∀ c ∈ ks.kv.map asPut, c.1.size ≤ 40 ∧ c.2.1.size ≤ 9000 := fun c hc => by
      obtain ⟨p, hp, rfl⟩ := List.mem_map.1 hc
      exact hsz p hp
    have HB := Lib.hid (show allB ks.kv = recB (ks.kv.map asPut) from rfl)
    generalize ks.kv.map asPut = lw at *
    obtain ⟨ao2, cap2, rfl⟩ := hOO.form
    have HR := Lib.hid (record_any ao2 cap2 lw W hOO.here hll hss)
    have f1 : W.cell? ⟨w.heap.size, 0, none⟩ = some (.slice ao2 lw.length cap2) := by rw [Lib.cell_of_heap e1]; rfl
    clear hO hOO e1 HST hP
    gi_wp2
    refine (callsIn_wide.2 HR.out).mono ?_
    rintro e W5 ⟨rfl, hb5⟩
    have hK5 : W5.heap[D]? = some (.deferred (some [])) := (hb5.block D (Array.getElem?_eq_some_iff.1 hK).1).trans hK
    gi_wp2
    refine ⟨by simp, .inl ⟨_, _, rfl, run_takeDeferred hK5, ?_⟩⟩
    exact ⟨.string (recB lw), by simp [results, Tryz.f56, go_sem], by rw [HB.out], (chain hB hb5).trans (belowK_b (w := w) (Nat.le_refl _) W5 D (.deferred (some [])) (.deferred none) (by omega) hK5 rfl rfl)⟩
  case stop =>
    rintro D c pre W hD hpre h hK
    exact h.elim
end Go.Proofs.YtdebfnlnpfienaaGreatDoor

/- A keep laid anew: what its parts leave. -/
namespace Go.Proofs.YtdebfnlnpfienaaGreatDoor
open Go.RowKit Lift Go.Maps
set_option linter.unusedSimpArgs false
set_option linter.unusedVariables false

theorem all_size {L : List KV} (hs : ∀ p ∈ L, p.1.size ≤ 40 ∧ p.2.size ≤ 9000) : (allB L).size ≤ 6 + 9058 * L.length := by
  unfold allB
  rw [recB_size]
  refine Nat.le_trans (recL_snoc_len _) ?_
  have : ((L.map asPut).map (fun w : KW => 18 + w.1.size + w.2.1.size)).sum ≤ 9058 * L.length := by
    induction L with
    | nil => simp
    | cons p r ih =>
      have h1 := hs p (List.mem_cons_self ..)
      have h2 := ih (fun q hq => hs q (List.mem_cons_of_mem _ hq))
      simp only [List.map_cons, List.sum_cons, List.length_cons, asPut] at h2 ⊢
      omega
  omega
section
variable {base : Nat} {w w' : World} {F F' : Fp} {st st' : St} {J : JF} {js : JSt} {K : KF} {ks : KSt}
theorem KRaw.allsz (h : KRaw base w F st J js K ks) : (allB ks.kv).size ≤ 10000000000 := by
  have h1 := all_size h.sz
  have h2 := h.kl
  have h3 := h.cn
  have h4 := Nat.mul_le_mul_left 9058 (Nat.le_trans h2 h3)
  omega
theorem JRaw.apart {X : Nat → Prop} (h : JRaw base w F st J js) (hR : Raw base w' F' st') (hb : F'.b = F.b) (hf : ∀ k, k = J.b ∨ some k = J.lv.ownBlock → ¬ foot F' k) (hk : Kept X w w') (hx : ∀ k, k = J.b ∨ some k = J.lv.ownBlock → ¬ X k) (hl : st'.no.length = st.no.length) : JRaw base w' F' st' J js where
  raw := hR
  blk := by rw [hb]; exact (hk.block J.b h.lt (hx _ (.inl rfl))).trans h.blk
  own := h.own.flat str_flat hk (fun k e => hx k (.inr e.symm))
  bb := h.bb
  gen := h.gen
  en := h.en
  lim := by rw [hl]; exact h.lim
  len := h.len
  n1 := hf _ (.inl rfl)
  n2 := fun k e => ⟨hf _ (.inr e.symm), (h.n2 k e).2⟩
/-- The plate has turned, and what lies apart from the keep. -/
theorem KRaw.apart {X : Nat → Prop} (h : KRaw base w F st J js K ks) (hR : Raw base w' F' st') (hb : F'.b = F.b) (hf : ∀ k, k = J.b ∨ some k = J.lv.ownBlock ∨ k = K.b ∨ k = K.mb → ¬ foot F' k) (hk : Kept X w w') (hx : ∀ k, k = J.b ∨ some k = J.lv.ownBlock ∨ k = K.b ∨ k = K.mb → ¬ X k) (hl : st'.no.length = st.no.length) : KRaw base w' F' st' J js K ks :=
  { h with
    jr := h.jr.apart hR hb (fun k hk' => hf k (hk'.imp id .inl)) hk (fun k hk' => hx k (hk'.imp id .inl)) hl
    blk := by rw [hb]; exact (hk.block K.b h.lt (hx _ (.inr (.inr (.inl rfl))))).trans h.blk
    map := SMap.old h.map hk (hx _ (.inr (.inr (.inr rfl))))
    n1 := fun hh => by
      rcases hh with hh | hh
      · exact hf _ (.inr (.inr (.inl rfl))) hh
      · exact h.n1 (.inr hh)
    n2 := fun hh => by
      rcases hh with hh | hh
      · exact hf _ (.inr (.inr (.inr rfl))) hh
      · exact h.n2 (.inr hh) }
theorem KRaw.own4 (h : KRaw base w F st J js K ks) : ∀ k, k = J.b ∨ some k = J.lv.ownBlock ∨ k = K.b ∨ k = K.mb → ¬ foot F k ∧ k < w.heap.size := by
  rintro k (rfl | e | rfl | rfl)
  · exact ⟨h.jr.n1, h.jr.lt⟩
  · exact ⟨(h.jr.n2 k e.symm).1, (h.jr.own.lt k e.symm).2⟩
  · exact ⟨fun hh => h.n1 (.inl hh), h.lt⟩
  · exact ⟨fun hh => h.n2 (.inl hh), h.mlt⟩
/-- .. by steps of the plate's alone. -/
theorem KRaw.plate (h : KRaw base w F st J js K ks) (hs : PlS base F st' w w') (hl : st'.no.length = st.no.length) : KS base F J K st' js ks w w' := by
  obtain ⟨F', hR, hb, hf, hk⟩ := hs
  refine ⟨F', J, h.apart hR hb (fun k hk' hh => by
      have := h.own4 k hk'
      rcases hf k hh with h1 | h1
      · exact this.1 h1
      · omega) hk (fun k hk' => (h.own4 k hk').1) hl, hb, fun k hh => ?_, hk.wide (fun k _ hh => .inl (.inl hh))⟩
  rcases hh with (hh | hh) | hh
  · rcases hf k hh with h' | h'
    · exact .inl (.inl (.inl h'))
    · exact .inr h'
  · exact .inl (.inl (.inr hh))
  · exact .inl (.inr hh)
theorem KRaw.die (h : KRaw base w F st J js K ks) : KRaw base (w.setCell ⟨K.b, 4, none⟩ (.bool true)) F st J js K ks.die :=
  have hk := Kept.setCell (X := (· = K.b)) w (p := ⟨K.b, 4, none⟩) rfl (.bool true)
  { h with
    jr := h.jr.kept hk (fun k hk' e => h.n1 (e ▸ hk'))
    blk := by simp [World.setCell, Array.getElem?_modify, h.blk, keCells, KSt.die]
    map := SMap.old h.map hk (fun e => h.ne e.symm) }
/-- The new journal stands in the keep. -/
theorem KRaw.swap {J2 : JF} {js2 : JSt} {g : Nat} (h : KRaw base w F st J js K ks) (h2 : JRaw base w F st J2 js2) (hg : g < 4294967296) (hn1 : K.b ≠ J2.b) (hn2 : K.mb ≠ J2.b) (ho : ∀ k, some k = J2.lv.ownBlock → k ≠ K.b ∧ k ≠ K.mb) :
    KRaw base ((w.setCell ⟨K.b, 2, none⟩ (.int .u32 g)).setCell ⟨K.b, 3, none⟩ (.pointer (some ⟨J2.b, 0, none⟩))) F st J2 js2 K { ks with gen := g } :=
  have hk1 := Kept.setCell (X := (· = K.b)) w (p := ⟨K.b, 2, none⟩) rfl (.int .u32 g)
  have hk := hk1.trans (Kept.setCell (X := (· = K.b)) _ (p := ⟨K.b, 3, none⟩) rfl (.pointer (some ⟨J2.b, 0, none⟩))) (Z := (· = K.b)) (fun _ _ h => h) (fun _ _ h => h)
  { jr := h2.kept hk (fun k hk' e => by
      subst e
      rcases hk' with h' | h' | h'
      · exact h.n1 (.inl h')
      · exact hn1 h'
      · exact (ho _ h').1 rfl)
    blk := by
      simp [World.setCell, Array.getElem?_modify, h.blk, keCells]
    map := SMap.old h.map hk (fun e => h.ne e.symm)
    rise := h.rise
    sz := h.sz
    kl := h.kl
    cn := h.cn
    gn := hg
    bb := h.bb
    mm := h.mm
    ne := h.ne
    n1 := fun hh => by
      rcases hh with h' | h' | h'
      · exact h.n1 (.inl h')
      · exact hn1 h'
      · exact (ho _ h').1 rfl
    n2 := fun hh => by
      rcases hh with h' | h' | h'
      · exact h.n2 (.inl h')
      · exact hn2 h'
      · exact (ho _ h').2 rfl }
end
set_option maxHeartbeats 1000000 in
set_option maxRecDepth 100000 in
theorem weight_any {base : Nat} {w : World} {F : Fp} {st : St} {J : JF} {js : JSt} {K : KF} {ks : KSt} (h : KRaw base w F st J js K ks) : Calls Tryz.prog 31 #[.pointer (some ⟨K.b, 0, none⟩)] w (BelowPost (.int .i64 (allB ks.kv).size) w) := by
  have HA := Lib.hid ((callsIn_wide (n := 9)).1 (kall_in 9 (by omega) h))
  have hz := h.allsz
  generalize allB ks.kv = s at *
  clear h
  go_enter Tryz.func31, Tryz.ntmps31
  go_wp2_with fail
  refine HA.out.mono ?_
  rintro e w1 ⟨rfl, hb⟩
  go_wp2_with fail
  go_ret
  exact ⟨rfl, hb⟩
end Go.Proofs.YtdebfnlnpfienaaGreatDoor
