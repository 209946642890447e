/- A card's lines behind others: the program's appendLines. -/
import Derived.Test.YtcfbmfcobpfcjaaDoorVcRaw
import Derived.Test.YtcfbmfcobpfcjaaDoorVcWeigh
namespace Go.Proofs.YtcfbmfcobpfcjaaDoor
open Go.RowKit Lift Go.Shelf
set_option linter.unusedSimpArgs false
set_option linter.unusedVariables false

/-- How much the lines of some of a card's properties are. -/
theorem props_bound {d k' : Nat} {c : Crd} (hs : Shal (k' + 1) c) : ∀ (l : List CProp), (∀ p ∈ l, p ∈ c.props) → firstE (l.map (errP d)) = 0 → (l.flatMap (pieceP d)).length ≤ l.length * (2901 + bud k') ∧ sumB (l.flatMap (pieceP d)) ≤ l.length * (2901 + bud k')
  | [], _, _ => by simp [sumB]
  | p :: t, hm, he => by
    rw [List.map_cons, firstE] at he
    split at he
    · rename_i hp0
      have h1 := props_bound hs t (fun q hq => hm q (List.mem_cons_of_mem _ hq)) he
      have h2 : (pieceP d p).length ≤ 2901 + bud k' ∧ sumB (pieceP d p) ≤ 2901 + bud k' := by
        unfold errP at hp0
        split at hp0
        · rename_i hq
          have hone := (chkQ_one hq).1
          have f1 := fold75_len p
          have f2 := fold75_sum p
          unfold pieceP
          rw [List.length_append, sumB_app]
          rcases hag : p.2.2.2.2 with _ | ⟨a, r⟩
          · simp [sumB]; unfold sumB at f2; omega
          · have hr : r = [] := by
              rw [hag] at hone; simp at hone; exact hone
            subst hr
            rw [hag] at hp0
            have ha0 : chkN d a = 0 := by
              simp only [List.map_cons, List.map_nil, firstE] at hp0
              split at hp0
              · rename_i e; exact e
              · exact hp0
            have := linesP_bound d k' a (hs.sub (hm p (List.mem_cons_self ..)) (by rw [hag]; exact List.mem_cons_self ..)) ha0
            simp only [List.flatMap_cons, List.flatMap_nil, List.append_nil]
            omega
        · rename_i hq; exact absurd hp0 hq
      rw [List.flatMap_cons, List.length_append, sumB_app, List.length_cons, Nat.succ_mul]
      omega
    · rename_i hp0; exact absurd he hp0

theorem cfold_any (s : ByteArray) (w : World) (hs : s.size ≤ 100000) : Calls Tryd.prog 21 #[.string s, .int .i64 75] w (RowPost Rd.str 9 (foldW s 75) w) :=
  fold_any s 75 w hs (Wf.of (by omega) (by omega)) (fun x w' hx hxs hb => lastAny_long x ⟨#[32, 9]⟩ w' (by decide) (by omega) (by omega) (by decide) bl_low)
theorem cfold_ref (s : ByteArray) (w : World) (hs : s.size ≤ 100000) : Calls Tryd.prog 31 #[.string s, .int .i64 75] w (RowPost Rd.str 9 (foldW s 75) w) :=
  fold_ref s 75 w hs (Wf.of (by omega) (by omega))
theorem strs_apart {w : World} {base cap : Nat} {e : TypeId} {ao : Option Addr} {l : List ByteArray} {v : Value} {S : Nat → Prop} (h : Lift.Own Rd.str S w base e (.slice ao l.length cap) l) (hv : ∀ k, v.ownBlock = some k → k < base) : SlAt Rd.str (fun b => True ∧ some b ≠ v.ownBlock) w ao l := by
  have hlt := h.lt
  rcases h.here with h0 | ⟨b, off, rfl, hb, hl, hc⟩
  · exact .inl h0
  · refine .inr ⟨b, off, rfl, ⟨trivial, fun e => ?_⟩, hl, fun k c hk => ?_⟩
    · have h1 := (hlt b rfl).1
      have h2 := hv b e.symm
      omega
    · obtain ⟨cs, h1, h2⟩ := hc k c hk
      exact ⟨cs, str_flat _ _ _ _ _ _ h1, h2⟩
theorem rawP_le {l : List Par} {v : ByteArray} (hl : l.length ≤ 4) (hv : v.size ≤ 600) : (rawP l v).1.length ≤ 6 ∧ (rawP l v).2.size ≤ 100000 := by
  unfold rawP
  split
  · exact ⟨show l.length ≤ 6 by omega, show v.size ≤ 100000 by omega⟩
  · split
    · refine ⟨by simp; omega, ?_⟩
      show (encL v.data.toList).length ≤ _
      have := encL_le v.data.toList
      have h2 : v.data.toList.length = v.size := by simp
      omega
    · refine ⟨by simp; omega, ?_⟩
      show (gapL (chunks 60 (sixB v))).length ≤ _
      have h1 := chunks_all (wd := 60) (by omega) (sixB v).size (sixB v) (Nat.le_refl _)
      have h2 : (sixB v).size ≤ 1000 := by
        show (grps v ((v.size + 2) / 3)).length ≤ _
        rw [grps_len]; omega
      rw [gapL_len]; omega
theorem rel_old {d : Nat} {base : Nat} {w w' : World} {cs : List Value} {c : Crd} (h : (rCrd d).rel (· < base) w cs c) (hb : Below base w w') : (rCrd d).rel (· < base) w' cs c :=
  (rCrd d).kept _ (base ≤ ·) _ _ _ _ h ⟨hb.os, hb.tape, hb.output, hb.size, fun k _ hk => hb.block k (by omega)⟩ (fun b h1 _ h2 => by omega)
/-- Lines under way: a row of the call's own, which may have grown. -/
structure AI (w : World) (base : Nat) (v0 : Value) (l : List ByteArray) (v : Value) (W : World) : Prop where
  own : Lift.Own Rd.str (fun _ => True) W base 9 v l
  kept : Kept (fun j => some j = v0.ownBlock) w W
  blk : v.ownBlock = v0.ownBlock ∨ ∃ g, v.ownBlock = some g ∧ w.heap.size ≤ g
theorem AI.next {w W W' : World} {base : Nat} {v0 v : Value} {l : List ByteArray} (h : AI w base v0 l v W) (hb : Below W.heap.size W W') : AI w base v0 l v W' := ⟨h.own.below hb, h.kept.step hb, h.blk⟩
theorem AI.grow {w W W' : World} {base : Nat} {v0 v v' : Value} {l l' : List ByteArray} (h : AI w base v0 l v W) (hO : Lift.Own Rd.str (fun _ => True) W' base 9 v' l') (hK : Kept (fun k => some k = v.ownBlock) W W') (hw : v'.ownBlock = v.ownBlock ∨ ∃ g, v'.ownBlock = some g ∧ W.heap.size ≤ g) : AI w base v0 l' v' W' := by
  have hz := h.kept.size
  refine ⟨hO, h.kept.trans hK (fun _ _ h => h) (fun k hk e => ?_), ?_⟩
  · rcases h.blk with e1 | ⟨g, e1, hg⟩
    · rw [← e1]; exact e
    · rw [e1] at e; cases e; omega
  · rcases hw with e | ⟨g, e, hg⟩
    · rw [e]; exact h.blk
    · exact .inr ⟨g, e, by omega⟩
theorem AI.comp {w W W' W2 : World} {base : Nat} {v0 v v2 : Value} {l l2 : List ByteArray} (h : AI w base v0 l v W) (hb : Below W.heap.size W W') (h2 : AI W' base v l2 v2 W2) : AI w base v0 l2 v2 W2 :=
  (h.next hb).grow h2.own h2.kept h2.blk
theorem AI.lost {w W W' : World} {base : Nat} {v0 v : Value} {l : List ByteArray} (h : AI w base v0 l v W) (hk : Kept (fun j => some j = v.ownBlock) W W') : Kept (fun j => some j = v0.ownBlock) w W' := by
  refine h.kept.trans hk (fun _ _ h => h) (fun k hk e => ?_)
  rcases h.blk with e1 | ⟨g, e1, hg⟩
  · rw [← e1]; exact e
  · rw [e1] at e; cases e; omega
theorem AI.below {w W : World} {base : Nat} {v0 v : Value} {l : List ByteArray} (h : AI w base v0 l v W) (hv : ∀ k, v0.ownBlock = some k → base ≤ k) (hb : base ≤ w.heap.size) : Below base w W := h.kept.below hb (fun k e => hv k e.symm)
def AppPost (w : World) (base : Nat) (v0 : Value) (l ls : List ByteArray) (err : Int) (e : Ending) (w' : World) : Prop :=
  if err = 0 then ∃ v, e = .returned (.tuple #[v, .int .i64 0]) ∧ AI w base v0 (l ++ ls) v w'
  else e = .returned (.tuple #[.slice none 0 0, .int .i64 err]) ∧ Kept (fun j => some j = v0.ownBlock) w w'
theorem two_strs (W : World) (S : Nat → Prop) (a b : ByteArray) (ha : a.size ≤ maxTx) (hb : b.size ≤ maxTx) (t : TypeId) (g : Nat) (hg : g = W.heap.size) (hS : S g) : SlAt Rd.str S (W.alloc (.cells #[.string a, .string b] t)) (some ⟨g, 0, none⟩) [a, b] := by
  subst hg
  refine SlAt.of_cells (xs := [.string a, .string b]) hS (by simp) ?_ ?_
  · intro i v hi
    rw [Nat.zero_add, Lib.cell_of_heap (heap_alloc_new W _) i]
    simpa using hi
  · have h1 := (RowsOf.nil Rd.str S (W.alloc (.cells #[.string a, .string b] t))).snoc (cs := [.string a]) (c := a) ⟨rfl, ha⟩
    have h2 := h1.snoc (cs := [.string b]) (c := b) ⟨rfl, hb⟩
    simpa using h2
set_option maxHeartbeats 8000000 in
set_option maxRecDepth 100000 in
theorem appl_any : ∀ (d k m : Nat) (c : Crd) (cs : Array Value) (w : World) (base : Nat) (v0 : Value) (l : List ByteArray), Shal k c → k ≤ 3 → FineC m c → (∀ W, Below base w W → Lib.Utf8Tabs 0 1 W) → base ≤ w.heap.size → (rCrd d).rel (· < base) w cs.toList c →
    Lift.Own Rd.str (fun _ => True) w base 9 v0 l → l.length + bud k ≤ 100000000 →
    Calls Tryd.prog 11 #[v0, .agg cs] w (AppPost w base v0 l (linesP d c) (chkN d c))
  | 0, k, m, c, cs, w, base, v0, l, hs, hk, hf, hT, hb, h, hO, hl => h.elim
  | d + 1, k, m, c, cs, w, base, v0, l, hs, hk, hf, hT, hb, h, hO, hl => by
    have ih := appl_any d
    have HIH := Lib.hid ih
    clear ih
    obtain ⟨d', ao, cap, hd', h1, h2, h3, h4, h5⟩ := card_inv h
    obtain rfl : d = d' := by omega
    obtain rfl : cs = #[.slice ao c.props.length cap] := Array.toList_inj.1 (by rw [h1])
    clear h hd' h1
    obtain ⟨k', rfl⟩ := hs.pos
    obtain ⟨i0, hi, hz0, hz1, hz2⟩ := str_info0
    have HI := Lib.hid hi; have HZ0 := Lib.hid hz0; have HZ1 := Lib.hid hz1; have HZ2 := Lib.hid hz2
    clear hi hz0 hz1 hz2
    have hv0 : ∀ k, v0.ownBlock = some k → base ≤ k := fun k hk => (hO.lt k hk).1
    have HA0 := Lib.hid (show AI w base v0 l v0 w from ⟨hO, Kept.refl _ _, .inl rfl⟩)
    by_cases h24 : 24 < c.props.length
    · have h24z : (24 : Int) < (c.props.length : Int) := by omega
      have HE := Lib.hid (show chkN (d + 1) c = 4 by rw [chkN_succ, if_pos h24])
      go_enter Tryd.func11, Tryd.ntmps11
      go_wp2_with fail
      go_ret2
      unfold AppPost
      rw [HE.out, if_neg (by decide)]
      exact ⟨rfl, Kept.alloc _ _ _⟩
    · have h24z : ¬ (24 : Int) < (c.props.length : Int) := by omega
      have hW1 : Below w.heap.size w (w.alloc (.cells #[.slice ao c.props.length cap] 24)) := (Below.refl _ w).alloc (Nat.le_refl _) _
      have HA1 := Lib.hid (HA0.out.next hW1)
      obtain ⟨ps, hps⟩ : ∃ ps, c.props = ps := ⟨_, rfl⟩
      have hfm : ∃ m', m = m' + 1 := by
        cases m with
        | zero => exact hf.elim
        | succ m' => exact ⟨m', rfl⟩
      obtain ⟨m', rfl⟩ := hfm
      have HFine := Lib.hid (show ∀ p ∈ ps, FineP m' p from fun p hp => hf.2 p (by rw [hps]; exact hp))
      have HSub := Lib.hid (show ∀ p ∈ ps, ∀ a ∈ p.2.2.2.2, Shal k' a from fun p hp a ha => hs.sub (by rw [hps]; exact hp) ha)
      have HBnd := Lib.hid (show ∀ i, firstE ((ps.take i).map (errP d)) = 0 → ((ps.take i).flatMap (pieceP d)).length ≤ 24 * (2901 + bud k') ∧ (i < ps.length → ((ps.take i).flatMap (pieceP d)).length ≤ 23 * (2901 + bud k')) from fun i h0 => by
        have h1 := (props_bound hs (ps.take i) (fun p hp => by rw [hps]; exact List.mem_of_mem_take hp) h0).1
        have h2 : (ps.take i).length ≤ 24 := by rw [List.length_take, ← hps]; omega
        refine ⟨Nat.le_trans h1 (Nat.mul_le_mul_right _ h2), fun hi => Nat.le_trans h1 (Nat.mul_le_mul_right _ ?_)⟩
        rw [List.length_take]; rw [hps] at h24; omega)
      have HC := Lib.hid (show chkN (d + 1) c = firstE (ps.map (errP d)) by rw [chkN_succ, if_neg h24, hps])
      have HLn := Lib.hid (show linesP (d + 1) c = [kBegin, kVersion] ++ ps.flatMap (pieceP d) ++ [kEndC] by rw [linesP_succ, hps])
      have HBud := Lib.hid (show bud (k' + 1) = 40 + 24 * (2901 + bud k') from rfl)
      rw [hps] at h5 h24z HA1 hW1 h24 h2
      rw [hps]
      have hp24 : ps.length ≤ 24 := by omega
      obtain ⟨BK, hBK⟩ : ∃ b, bud k' = b := ⟨_, rfl⟩
      rw [hBK] at HBnd HBud
      have HBK := Lib.hid hBK
      have HH5 := Lib.hid h5
      have hll : l.length ≤ 100000000 := by omega
      have Hl := Lib.hid hl
      have hne : some (w.heap.size + 1) ≠ v0.ownBlock := fun e => by have := (hO.lt _ e.symm).2; omega
      have hne0 : ¬ (some w.heap.size = v0.ownBlock) := fun e => by have := (hO.lt _ e.symm).2; omega
      clear hps hf hs h2 h3 h4 h24 hBK h5 hO hl hW1
      go_enter Tryd.func11, Tryd.ntmps11
      go_wp2_with (first
        | (at_builtin; go_loud (refine wpList_pushAll Rd.str rfl _ _ 33 rfl base 9 i0 _ 16 Tryd.underlying33 HI.out HZ0.out HZ1.out HZ2.out rfl (by decide) (fun _ => True) v0 l rfl (HA1.out.own.alloc _) _ 2 [kBegin, kVersion] rfl (by intro h; cases h) (two_strs _ _ kBegin kVersion (by decide) (by decide) _ _ (by simp) ⟨trivial, hne⟩) str_one (by unfold maxLen; simp; omega) (by simp; omega) (by simp; omega) ?_; intro v2 w2 hO2 hK2 hw2; obtain ⟨L, hL⟩ : ∃ L, l ++ [kBegin, kVersion] = L := ⟨_, rfl⟩; rw [hL] at hO2; have HL := Lib.hid hL; clear hL; obtain ⟨a2, c2, rfl⟩ := hO2.form; have HA2 := Lib.hid ((HA1.out.next ((Below.refl _ _).alloc (Nat.le_refl _) _)).grow hO2 hK2 hw2); have c0 := (hK2.cell (p := ⟨w.heap.size, 0, none⟩) (by simp; omega) hne0).trans (show _ = some (Value.slice ao ps.length cap) by simp [go_sem]); clear hO2 hK2 hw2 HA1))
        | fail)
      clear c0 hne hne0 HA0
      have HLl := Lib.hid (show L.length = l.length + 2 by rw [← HL.out]; simp)
      go_loopw [0, 24] (fun v0' v24 wr => ∃ (i : Nat) (lv : List ByteArray), i ≤ ps.length ∧ v24 = .int .i64 i ∧ Hid (lv = L ++ (ps.take i).flatMap (pieceP d)) ∧ Hid (AI w base v0 lv v0' wr) ∧ Hid (firstE ((ps.take i).map (errP d)) = 0)) (fun _ v24 _ => ps.length - (intOf v24).toNat)
      case atStart => exact ⟨0, L, Nat.zero_le _, rfl, Lib.hid (by simp), HA2, Lib.hid (by simp [firstE])⟩
      case round =>
        clear HA2
        obtain ⟨i, lv, hi, rfl, HV, HA, HE⟩ := hrel
        by_cases hil : i < ps.length
        · have hil2 : (i : Int) < (ps.length : Int) := by omega
          have h23 : i ≤ 24 := by omega
          obtain ⟨⟨g, n, pl, v, gs⟩, hp⟩ := some_at hil
          have hpm : (g, n, pl, v, gs) ∈ ps := List.mem_of_getElem? hp
          have hbb := HA.out.below hv0 hb
          obtain ⟨b, off, pa, pc, aa, ac, rfl, hS, hlt, s1, s2, s3, ⟨j1, j2, j3, j4⟩, ⟨i1, i2, i3, i4⟩, k0, k1, k2, k3, k4⟩ := prop_get HH5.out hp
          have hfp := HFine.out _ hpm
          dsimp only at j1 j3 j4 i1 i3 i4 k0 k1 k2 k3 k4 s1 s2 s3
          have hpl20 : pl.length ≤ 20 := hfp.1
          have HFA := Lib.hid hfp.2.2.2
          have HSA := Lib.hid (HSub.out _ hpm)
          have HI4 := Lib.hid i4
          have q0 := (hbb.cell (p := ⟨b, off + i * 5, none⟩) hS).trans k0
          have q1 := (hbb.cell (p := ⟨b, off + i * 5 + 1, none⟩) hS).trans k1
          have q2 := (hbb.cell (p := ⟨b, off + i * 5 + 2, none⟩) hS).trans k2
          have q3 := (hbb.cell (p := ⟨b, off + i * 5 + 3, none⟩) hS).trans k3
          have q4 := (hbb.cell (p := ⟨b, off + i * 5 + 4, none⟩) hS).trans k4
          obtain ⟨wo, rfl⟩ : ∃ x : World, x = wr := ⟨_, rfl⟩
          obtain ⟨W2, hW2⟩ : ∃ x, wo.alloc (.cells #[.string g, .string n, .slice pa pl.length pc, .string v, .slice aa gs.length ac] 42) = x := ⟨_, rfl⟩
          have hbx : Below wo.heap.size wo W2 := by rw [← hW2]; exact (Below.refl _ _).alloc (Nat.le_refl _) _
          have hblk : W2.heap[wo.heap.size]? = some (.cells #[.string g, .string n, .slice pa pl.length pc, .string v, .slice aa gs.length ac] 42 (0, 0)) := by rw [← hW2]; exact heap_alloc_new _ _
          have hbwo : base ≤ wo.heap.size := Nat.le_trans hb hbb.size
          have hb2 : Below base w W2 := hbb.trans (hbx.mono hbwo)
          have HCk := Lib.hid (cchk_any g n v aa gs.length ac pa pc pl W2 (j4.old hb2).here (by omega))
          have HA2 := Lib.hid (HA.out.next hbx)
          have HB2 := Lib.hid hb2
          have HBlk := Lib.hid hblk
          have HJ4 := Lib.hid j4
          have HW2 := Lib.hid hW2
          have HIL := Lib.hid (And.intro hil hpm)
          have HP := Lib.hid hp
          have hjn := Lib.hid j3
          obtain ⟨E, hE⟩ : ∃ E, chkC g n pl v gs.length = E := ⟨_, rfl⟩
          have HQ := Lib.hid (show chkQ (g, n, pl, v, gs) = E from hE)
          unfold propV at HCk
          rw [hE] at HCk
          have hlv : lv.length + 2901 + BK + 38 ≤ 100000000 := by
            have h1 := (HBnd.out i HE.out).2 hil
            have h2 := HBud.out
            have h3 := Hl.out
            have h4 := HLl.out
            rw [HV.out, List.length_append]; omega
          clear hbb hp hE k0 k1 k2 k3 k4 j1 j2 j3 j4 i1 i2 i3 i4 s1 s2 s3 hW2 hbx hblk hb2 hpm hfp hlt
          go_wp2_with fail
          rw [HW2.out]
          clear HW2 q0 q1 q2 q3 q4
          refine HCk.out.mono ?_
          rintro e w3 ⟨rfl, hb3⟩
          have HA3 := Lib.hid (HA2.out.next hb3)
          have hB2z : wo.heap.size < W2.heap.size := (Array.getElem?_eq_some_iff.1 HBlk.out).1
          have hblk3 := (hb3.block wo.heap.size hB2z).trans HBlk.out
          have hb3' : Below base w w3 := HB2.out.trans (hb3.mono (by omega))
          have hz3 := hb3.size
          by_cases hE0 : E = 0
          case neg =>
            have hE1 : (E != 0) = true := by simpa using hE0
            have HR := Lib.hid (show chkN (d + 1) c = E by
              rw [HC.out, firstE_stop (errP d) HP.out HE.out (by unfold errP; rw [HQ.out, if_neg hE0]; exact hE0)]
              unfold errP; rw [HQ.out, if_neg hE0])
            clear HCk
            go_wp2_with fail
            go_ret2
            unfold AppPost
            rw [HR.out, if_neg hE0]
            exact ⟨rfl, HA3.out.kept⟩
          subst hE0
          have kk : w3.cell? ⟨wo.heap.size, 0, none⟩ = some (.string g) ∧ w3.cell? ⟨wo.heap.size, 1, none⟩ = some (.string n) ∧ w3.cell? ⟨wo.heap.size, 2, none⟩ = some (.slice pa pl.length pc) ∧ w3.cell? ⟨wo.heap.size, 3, none⟩ = some (.string v) ∧ w3.cell? ⟨wo.heap.size, 4, none⟩ = some (.slice aa gs.length ac) :=
            ⟨(Lib.cell_of_heap hblk3 0).trans rfl, (Lib.cell_of_heap hblk3 1).trans rfl, (Lib.cell_of_heap hblk3 2).trans rfl, (Lib.cell_of_heap hblk3 3).trans rfl, (Lib.cell_of_heap hblk3 4).trans rfl⟩
          obtain ⟨q0, q1, q2, q3, q4⟩ := kk
          have hone := chkQ_one HQ.out
          dsimp only at hone
          obtain ⟨ha1, hv6, hp4⟩ := hone
          have HRw := Lib.hid (raw_any g n v aa gs.length ac pa pc pl w3 (hT w3 hb3') (HJ4.out.old hb3').here (by omega) (by omega) hjn.out)
          have hrl := rawP_le hp4 hv6
          have HLP := Lib.hid (show lineP (g, n, pl, v, gs) = ⟨(printP g n (rawP pl v).1 (rawP pl v).2 0).1.toArray⟩ from rfl)
          obtain ⟨l', v', hraw⟩ : ∃ l' v', rawP pl v = (l', v') := ⟨_, _, rfl⟩
          rw [hraw] at HRw hrl HLP
          dsimp only at hrl HLP
          unfold propV at HRw
          have HB3 := Lib.hid hb3'
          have HBlk3 := Lib.hid hblk3
          have hw3 : wo.heap.size < w3.heap.size := by omega
          clear HCk HB2 HA2 HBlk hraw hb3 hb3' hblk3 hB2z
          go_wp2_with fail
          refine HRw.out.mono ?_
          rintro e w4 ⟨a5, c5, rfl, hsl5, hb4⟩
          have HPr := Lib.hid (print_any g n v' none 0 0 a5 c5 l' w4 hsl5 (by omega) (by omega))
          have HA4 := Lib.hid (HA3.out.next hb4)
          have hz4 := hb4.size
          have hblk4 := (hb4.block wo.heap.size hw3).trans HBlk3.out
          have HB4 := Lib.hid (HB3.out.trans (hb4.mono (by omega)))
          have HBlk4 := Lib.hid hblk4
          unfold propV at HPr
          clear HRw hsl5 hb4 hblk4 HA3 HB3 HBlk3 q0 q1 q2 q3 q4
          go_wp2_with fail
          refine HPr.out.mono ?_
          rintro e w5 ⟨rfl, hb5⟩
          rw [← HLP.out]
          have hln := lineP_len (g, n, pl, v, gs)
          have hfl := fold75_len (g, n, pl, v, gs)
          obtain ⟨ln, hlne⟩ : ∃ s, lineP (g, n, pl, v, gs) = s := ⟨_, rfl⟩
          obtain ⟨er, her⟩ : ∃ x, (printP g n l' v' 0).2 = x := ⟨_, rfl⟩
          have HLN := Lib.hid hlne
          rw [hlne] at hln hfl ⊢
          rw [her]
          have HFo := Lib.hid (cfold_any ln w5 (by omega))
          obtain ⟨fl, hfle⟩ : ∃ s, foldW ln 75 = s := ⟨_, rfl⟩
          have HFL := Lib.hid hfle
          rw [hfle] at HFo hfl
          have HA5 := Lib.hid (HA4.out.next hb5)
          have hz5 := hb5.size
          have hblk5 := (hb5.block wo.heap.size (by omega)).trans HBlk4.out
          have HB5 := Lib.hid (HB4.out.trans (hb5.mono (by omega)))
          have HBlk5 := Lib.hid hblk5
          have hlo := Lib.hid (HA.out.own.lt)
          clear HPr hlne her hfle hb5 hblk5 HA4 HB4 HBlk4 HLP hln
          go_wp2_with fail
          refine HFo.out.mono ?_
          rintro e w6 ⟨af, cf, rfl, hOf, hb6⟩
          have HA6 := Lib.hid (HA5.out.next hb6)
          have hz6 := hb6.size
          have hcf := hOf.cap
          have hmf := strs_apart (v := u0) hOf (fun k hk => (HA5.out.own.lt k hk).2)
          have hblk6 := (hb6.block wo.heap.size (by omega)).trans HBlk5.out
          have HBlk6 := Lib.hid hblk6
          have hcn := Lib.hid hcf.2.2.2
          have HMf := Lib.hid hmf
          have hb6' : base ≤ w6.heap.size := by omega
          clear HFo hOf hb6 HA5 HB5 HBlk5 hblk6 hcf hmf
          go_wp2_with (first
            | (at_builtin; go_loud (refine wpList_pushAll Rd.str rfl _ _ 33 rfl base 9 i0 _ 16 Tryd.underlying33 HI.out HZ0.out HZ1.out HZ2.out rfl (by decide) (fun _ => True) u0 lv rfl HA6.out.own af cf fl rfl hcn.out HMf.out str_one (by unfold maxLen; omega) (by omega) hb6' ?_; intro v7 w7 hO7 hK7 hw7; have HA7 := Lib.hid (HA6.out.grow hO7 hK7 hw7); have hz7 := hK7.size; have q4 := (Lib.cell_of_heap ((hK7.block wo.heap.size (by omega) (fun e => by have := (hlo.out _ e.symm).2; omega)).trans HBlk6.out) 4).trans (show _ = some (Value.slice aa gs.length ac) from rfl); clear hO7 hK7 hw7 HA6 HBlk6 HMf hcn))
            | fail)
          have hlt7 : lv.length + fl.length + BK + 38 ≤ 100000000 := by omega
          have HHV := HV
          have HHE := HE
          clear HV HE q4 HA hz7 hz6 hz5 hz4 hz3
          go_loopw [0, 46] (fun v0' v46 wr => ∃ (j : Nat) (lv2 : List ByteArray), j ≤ gs.length ∧ v46 = .int .i64 j ∧ Hid (lv2 = lv ++ fl ++ (gs.take j).flatMap (linesP d)) ∧ Hid (AI w base v0 lv2 v0' wr) ∧ Hid (firstE ((gs.take j).map (chkN d)) = 0)) (fun _ v46 _ => gs.length - (intOf v46).toNat)
          case atStart => exact ⟨0, lv ++ fl, Nat.zero_le _, rfl, Lib.hid (by simp), HA7, Lib.hid (by simp [firstE])⟩
          case round =>
            clear HA7
            obtain ⟨j, lv2, hj, rfl, HV, HA, HE⟩ := hrel
            by_cases hjl : j < gs.length
            · have hjl2 : (j : Int) < (gs.length : Int) := by omega
              have hj0 : j = 0 := by omega
              obtain ⟨a, ha⟩ := some_at hjl
              have ham : a ∈ gs := List.mem_of_getElem? ha
              have hbb := HA.out.below hv0 hb
              obtain ⟨b2, off2, v2, haa, hS2, hlt2, hr, hcv, hv1⟩ := crd_get HI4.out ha
              obtain ⟨d2, ao2, cap2, hd2, hve, _, _, _, _⟩ := card_inv hr
              obtain rfl : v2 = .slice ao2 a.props.length cap2 := by simpa using hve
              subst haa
              have q0 := (hbb.cell (p := ⟨b2, off2 + j, none⟩) hS2).trans hcv
              obtain ⟨wi, rfl⟩ : ∃ x : World, x = wr := ⟨_, rfl⟩
              obtain ⟨W8, hW8⟩ : ∃ x, wi.alloc (.cells #[.slice ao2 a.props.length cap2] 24) = x := ⟨_, rfl⟩
              have hbx : Below wi.heap.size wi W8 := by rw [← hW8]; exact (Below.refl _ _).alloc (Nat.le_refl _) _
              have hbwi : base ≤ wi.heap.size := Nat.le_trans hb hbb.size
              have hb8 : Below base w W8 := hbb.trans (hbx.mono hbwi)
              have hl8 : lv2.length + bud k' ≤ 100000000 := by
                rw [HV.out, hj0, HBK.out]; simp; omega
              have HCa := Lib.hid (HIH.out k' m' a #[.slice ao2 a.props.length cap2] W8 base u0 lv2 (HSA.out a ham) (by omega) (HFA.out a ham) (fun W hW => hT W (hb8.trans hW)) (Nat.le_trans hbwi hbx.size) (rel_old hr hb8) (HA.out.next hbx).own hl8)
              have HA8 := Lib.hid (HA.out.next hbx)
              have HW8 := Lib.hid hW8
              have Ha := Lib.hid ha
              have Hbx := Lib.hid hbx
              clear hbb hr hcv hv1 hve ha ham hW8 hbx hb8 hl8 hlt2 hd2 hj0
              go_wp2_with fail
              rw [HW8.out]
              clear HW8 q0
              refine HCa.out.mono ?_
              intro e w9 hpost
              unfold AppPost at hpost
              by_cases hE2 : chkN d a = 0
              · rw [if_pos hE2] at hpost
                obtain ⟨v9, rfl, hA9⟩ := hpost
                have HA9 := Lib.hid (HA8.out.comp (Below.refl _ _) hA9)
                have HE9 := Lib.hid (firstE_go (chkN d) Ha.out HE.out hE2)
                have HV9 := Lib.hid (show lv2 ++ linesP d a = lv ++ fl ++ (gs.take (j + 1)).flatMap (linesP d) by rw [HV.out, take_at2 Ha.out]; simp)
                clear hA9 HA8 HCa
                go_wp2_with fail
                go_roundw
                case measure => simp [intOf]; omega
                case rel => exact ⟨j + 1, lv2 ++ linesP d a, by omega, by go_num, HV9, HA9, HE9⟩
              · rw [if_neg hE2] at hpost
                obtain ⟨rfl, hK9⟩ := hpost
                have HR := Lib.hid (show chkN (d + 1) c = chkN d a by
                  have h1 : errP d (g, n, pl, v, gs) = chkN d a := by
                    unfold errP; rw [HQ.out, if_pos rfl]
                    exact firstE_stop (chkN d) Ha.out HE.out hE2
                  rw [HC.out, firstE_stop (errP d) HP.out HHE.out (by rw [h1]; exact hE2), h1])
                have HK9 := Lib.hid (HA8.out.lost hK9)
                obtain ⟨E2, hE2e⟩ : ∃ x, chkN d a = x := ⟨_, rfl⟩
                rw [hE2e] at hE2 HR ⊢
                have hE3 : (E2 != 0) = true := by simpa using hE2
                clear hK9 HA8 HCa hE2e
                go_wp2_with fail
                go_ret2
                unfold AppPost
                rw [HR.out, if_neg hE2]
                exact ⟨rfl, HK9.out⟩
            · obtain rfl : j = gs.length := by omega
              have herr : errP d (g, n, pl, v, gs) = 0 := by
                unfold errP; rw [HQ.out, if_pos rfl]
                have := HE.out
                rwa [List.take_length] at this
              have HE9 := Lib.hid (firstE_go (errP d) HP.out HHE.out herr)
              have HV9 := Lib.hid (show lv2 = L ++ (ps.take (i + 1)).flatMap (pieceP d) by
                have h1 := HV.out
                rw [List.take_length] at h1
                rw [h1, HHV.out, take_at2 HP.out]
                unfold pieceP
                simp only [List.flatMap_append, List.flatMap_cons, List.flatMap_nil, List.append_nil, HLN.out, HFL.out, List.append_assoc])
              clear herr
              go_wp2_with fail
              go_roundw
              case measure => simp [intOf]; omega
              case rel => exact ⟨i + 1, lv2, by omega, by go_num, HV9, HA, HE9⟩
        · obtain rfl : i = ps.length := by omega
          have hlen : lv.length + 1 ≤ 100000000 := by
            have h1 := (HBnd.out ps.length HE.out).1
            have h2 := HBud.out
            have h3 := Hl.out
            have h4 := HLl.out
            rw [HV.out, List.length_append]; omega
          have hbw := (HA.out.below hv0 hb).size
          have HR := Lib.hid (show chkN (d + 1) c = 0 by rw [HC.out]; have := HE.out; rwa [List.take_length] at this)
          have HV9 := Lib.hid (show lv ++ [kEndC] = l ++ linesP (d + 1) c by rw [HV.out, HLn.out, ← HL.out, List.take_length]; simp)
          go_wp2_with (first
            | (at_builtin; go_loud (refine wpList_push Rd.str rfl _ _ 33 rfl base 9 i0 _ 16 Tryd.underlying33 HI.out HZ0.out HZ1.out HZ2.out rfl (by decide) (fun _ => True) u0 lv rfl HA.out.own [.string kEndC] kEndC _ rfl (by simp) (str_rel _ _ kEndC (by decide)) (by simp [Value.oneCell']) (by unfold maxLen; omega) (by omega) (by omega) ?_; intro v9 w9 hO9 hK9 hw9; have HA9 := Lib.hid (HA.out.grow hO9 hK9 (hw9.imp id (fun ⟨g, h1, h2⟩ => ⟨g, h1, by omega⟩))); clear hO9 hK9 hw9))
            | fail)
          go_ret2
          unfold AppPost
          rw [HR.out, if_pos rfl]
          exact ⟨_, rfl, by rw [← HV9.out]; exact HA9.out⟩
end Go.Proofs.YtcfbmfcobpfcjaaDoor
