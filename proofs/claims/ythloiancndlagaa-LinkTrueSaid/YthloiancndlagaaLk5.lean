/- The document's link: gone, Take, Drop. -/
import Derived.Test.YthloiancndlagaaLk4
namespace Lift
open Go Go.ChangeShapes Go.WideShapes Go.ChangeAt Go.RowKit Go.Deep
set_option linter.unusedVariables false
/-- 'append(l, m...)' at a step of a region that draws its order. -/
theorem step_pushAll {α : Type} (r : Rd α) {P : Program} {w : World} {ops : Array Oper} {o : Oper} {a : Act} {K : Act → World → Prop} {Q : Exit → Act → World → Prop} {E : Prop} (hgd : o.guard = none) (s x : Operand) (t : TypeId)
    (ho : o.op = .call { callee := .builtin .append, args := #[s, x], argTypes := #[t, t] })
    (base : Nat) (e : TypeId) (i : TypeInfo) (z : Value) (bytes : Nat) (ht : P.underlying t = some (.slice e)) (hi : P.info? e = some i) (hz : i.zero = some z)
    (hsize : i.size = r.n) (hby : i.bytes = bytes) (hzs : z.cells.size = r.n) (hsz : 0 < r.n)
    (S : Nat → Prop) (v : Value) (l : List α) (hs : a.eval s = v) (hO : Own r S w base e v l) (ao : Option Addr) (cap : Nat) (m : List α) (k : Nat) (hx : a.eval x = .slice ao k cap) (hkm : k = m.length) (hnone : ao = none → cap = 0)
    (hm : SlAt r (fun b => S b ∧ some b ≠ v.ownBlock) w ao m) (h1 : ∀ S w cs c, r.rel S w cs c → ∀ u ∈ cs, u.oneCell' = true)
    (h63 : l.length + m.length ≤ maxLen) (hbytes : (l.length + m.length) * bytes ≤ 140737488355328) (hbase : base ≤ w.heap.size)
    (h : ∀ v' w', Own r S w' base e v' (l ++ m) → Kept (fun k => some k = v.ownBlock) w w' → (v'.ownBlock = v.ownBlock ∨ ∃ g, v'.ownBlock = some g ∧ w.heap.size ≤ g) → K (a.put o.dst v') w') :
    if Region.wanted o (yielded ops a.tmps) = true then Oper.wp P o a w K Q else E := by
  subst hkm
  obtain ⟨xs, hown, hrows⟩ := hO
  obtain ⟨ys, hy1, hy2, hy3⟩ := hm.news
  refine step_append2 hgd s x t ho base e i z r.n bytes ht hi hz hsize hby hzs hsz v l.length xs hs hown ao m.length cap ys hx ?_ hy1 hy3 ?_ h63 hbytes hbase ?_
  · intro h0
    refine ⟨?_, hnone h0⟩
    rcases hm with rfl | ⟨b, off, h2, _⟩
    · rfl
    · rw [h0] at h2; cases h2
  · intro u hu
    obtain ⟨css, rfl, hl, hrel⟩ := hy2
    obtain ⟨cs, hcs, hu2⟩ := List.mem_flatten.1 hu
    obtain ⟨j, hj, rfl⟩ := List.getElem_of_mem hcs
    obtain ⟨cs', h3, h4⟩ := hrel j m[j] (by simp)
    rw [List.getElem?_eq_getElem hj] at h3
    rw [Option.some.inj h3] at hu2
    exact h1 _ _ _ _ h4 u hu2
  · intro v' w' hown2 hg _ hw
    exact h v' w' (Own.append hrows hy2 hown2 (by simp) hg hw) (Kept.of_grown hg) hw
theorem SlAt.upto {α : Type} {r : Rd α} {S : Nat → Prop} {w : World} {ao : Option Addr} {l : List α} (h : SlAt r S w ao l) (k : Nat) : SlAt r S w ao (l.take k) := by
  rcases h with rfl | ⟨b', off', e, hs, hlt, h⟩
  · exact .inl (by simp)
  · refine .inr ⟨_, _, e, hs, hlt, fun j c hj => h j c ?_⟩
    rw [List.getElem?_take] at hj
    split at hj
    · exact hj
    · cases hj
end Lift
namespace Go.Proofs.Ythloiancndlagaa
open Go.RowKit Lift
set_option linter.unusedSimpArgs false
set_option linter.unusedVariables false

theorem slKept {l : List Pk} {B : Nat} {w w' : World} {ao : Option Addr} (h : SlAt rPk (· < B) w ao l) (hb : Below B w w') (hB : B ≤ w.heap.size) (v : Value) (hv : ∀ j, v.ownBlock = some j → B ≤ j) : SlAt rPk (fun b => True ∧ some b ≠ v.ownBlock) w' ao l :=
  (h.old hb).mono (fun b h1 _ => ⟨trivial, fun e => by have := hv b e.symm; omega⟩)
set_option maxHeartbeats 8000000 in
set_option maxRecDepth 100000 in
theorem gone_ref {b g cap room n : Nat} {l : List Pk} {w : World} (i : Nat) (hn : l.length = n + 1) (hi : i ≤ n) (h : Lk 38 b (.slice (some ⟨g, 0, none⟩) (n + 1) cap) room l w) :
    Calls Try.prog 28 #[.pointer (some ⟨b, 0, none⟩), .int .i64 i] w (LkPost 38 b (.slice (some ⟨g, 0, none⟩) (n + 1) cap) room (l.eraseIdx i) (.tuple #[]) w) := by
  obtain ⟨i0, hi0, hz0, hz1, hz2⟩ := pkr_info0
  have HI := Lib.hid hi0; have HZ0 := Lib.hid hz0; have HZ1 := Lib.hid hz1; have HZ2 := Lib.hid hz2
  clear hi0 hz0 hz1 hz2
  have hle := h.le
  obtain ⟨hc1, hc2, hcc, hcd⟩ := h.own.cap
  clear hcc hcd
  have hf1 := h.f1
  rw [hn] at hc1 hle
  have c1 := h.c1
  have hlt := h.lt
  have hSl : SlAt rPk (· < w.heap.size) w (some ⟨g, 0, none⟩) l := h.own.here
  obtain ⟨ad, had⟩ : ∃ ad : Addr, (if cap = i + 1 then some (⟨g, 0, none⟩ : Addr) else some ⟨g, (i + 1) * 2, none⟩) = some ad := by split <;> exact ⟨_, rfl⟩
  have hDr : SlAt rPk (· < w.heap.size) w (some ad) (l.drop (i + 1)) := by
    by_cases hcap : cap = i + 1
    · exact .inl (List.drop_eq_nil_of_le (by omega))
    · rw [if_neg hcap] at had
      obtain rfl := Option.some.inj had
      have := hSl.from' (i + 1)
      rwa [Nat.zero_add] at this
  have HM2 := Lib.hid (fun (w3 : World) (v3 : Value) (hb : Below w.heap.size w w3) (hv : ∀ j, v3.ownBlock = some j → w.heap.size ≤ j) => slKept hDr hb (Nat.le_refl _) v3 hv)
  have hbA : Below w.heap.size w (w.drew.alloc (.cells #[] 38)) := (Below.refl _ w).drew.alloc (Nat.le_refl _) _
  have HM1 := Lib.hid (slKept (hSl.upto i) hbA (Nat.le_refl _) (.slice (some ⟨w.heap.size, 0, none⟩) 0 0) (fun j hj => by cases hj; exact Nat.le_refl _))
  have HOm := Lib.hid (own_made2 rPk (fun _ => True) w.drew w.heap.size w.heap.size 38 (Nat.le_refl _) rfl)
  have HBA := Lib.hid hbA
  have HT1 := Lib.hid (show i = (l.take i).length by rw [List.length_take]; omega)
  have HT2 := Lib.hid (show n - i = (l.drop (i + 1)).length by rw [List.length_drop]; omega)
  obtain ⟨M, hM⟩ : ∃ M, l.eraseIdx i = M := ⟨_, rfl⟩
  have HE := Lib.hid (show l.take i ++ l.drop (i + 1) = M by rw [← hM, List.eraseIdx_eq_take_drop_succ])
  have HML := Lib.hid (show M.length = n by rw [← hM, List.length_eraseIdx, hn, if_pos (by omega)]; rfl)
  rw [hM]
  clear hM
  have HH := Lib.hid h
  have HN := Lib.hid hn
  have hj0 : (0 : Int) ≤ (i : Int) + 1 := by omega
  have hj1 : i ≤ cap := by omega
  have hj2 : i + 1 ≤ cap := by omega
  have hj3 : i < cap := by omega
  have hi1 : (i : Int) < (n : Int) + 1 := by omega
  have hi2 : (i : Int) + 1 ≤ (n : Int) + 1 := by omega
  have hi9 : i ≤ 1000 := by omega
  have hwr : IntKind.i64.wrap ((i : Int) + 1) = (i : Int) + 1 := IntWalk.i64_in _ (by omega)
  unfold maxLen at hc2
  have HL1 := Lib.hid (show (l.take i).length ≤ 1000 by rw [List.length_take]; omega)
  have HL2 := Lib.hid (show (l.drop (i + 1)).length ≤ 1000 by rw [List.length_drop]; omega)
  have HLE := Lib.hid hle
  clear h hSl hDr hbA hn hle
  go_enter Try.func28, Try.ntmps28
  go_wp2_with fail
  go_region_law (first
    | (refine step_pushAll rPk rfl (.tmp 5) (.tmp 11) 39 rfl w.heap.size 38 i0 _ 24 Try.underlying39 HI.out HZ0.out HZ1.out HZ2.out rfl (by decide) (fun _ => True) _ [] (by rfl) HOm.out _ cap (l.take i) i (by rfl) HT1.out (fun e => by cases e) HM1.out pk_one (by have := HL1.out; unfold maxLen; simp; omega) (by have := HL1.out; simp; omega) (by simp) ?_; intro v2 w2 hO2 hK2 hw2; have hB2 := HBA.out.trans (HOm.out.kbelow (B := w.heap.size) (Nat.le_refl _) (by simp) hK2); rw [List.nil_append] at hO2; have c2 := (hB2.cell (p := ⟨b, 1, none⟩) hlt).trans c1)
    | (refine step_pushAll rPk rfl (.tmp 12) (.tmp 19) 39 rfl w.heap.size 38 i0 _ 24 Try.underlying39 HI.out HZ0.out HZ1.out HZ2.out rfl (by decide) (fun _ => True) _ (l.take i) (by rfl) hO2 (some ad) (cap - (i + 1)) (l.drop (i + 1)) (n - i) (by rfl) HT2.out (fun e => by cases e) (HM2.out _ _ hB2 (fun j hj => (hO2.lt j hj).1)) pk_one (by have := HL1.out; have := HL2.out; unfold maxLen; omega) (by have := HL1.out; have := HL2.out; omega) hB2.size ?_; intro v4 w4 hO4 hK4 hw4; have hB4 := hB2.trans (hO2.kbelow (B := w.heap.size) (Nat.le_refl _) hB2.size hK4); have c4 := (hB4.cell (p := ⟨b, 1, none⟩) hlt).trans c1; have f4 := (hB4.frozen (p := ⟨b, 1, none⟩) hlt).trans hf1; rw [HE.out] at hO4; obtain ⟨ao4, cap4, e4⟩ := hO4.form; rw [HML.out] at e4; subst e4))
  all_goals
    have hR := HH.out.put (Kept.of_below hB4 _) (hO4.rebase (by omega)) (by have := HLE.out; rw [HML.out]; omega) (by
      cases ao4 with
      | none => exact .inr (.inl rfl)
      | some a => exact .inr (.inr ⟨a.block, rfl, (hO4.lt a.block rfl).1⟩))
    go_end0
    exact ⟨rfl, _, hR.1, hR.2.1, hR.2.2⟩
set_option maxHeartbeats 1000000 in
set_option maxRecDepth 100000 in
theorem drop_ref {b : Nat} {v : Value} {room : Nat} {l : List Pk} {w : World} (k : Int) (h : Lk 38 b v room l w) :
    Calls Try.prog 16 #[.pointer (some ⟨b, 0, none⟩), .int .i64 k] w (LkPost 38 b v room (goneL k l) (.int .i64 (goneE l)) w) := by
  by_cases hl : 0 < l.length
  · obtain ⟨p, h1, h2, h3, h4⟩ := gone_some k hl h.le
    obtain ⟨n, hn⟩ : ∃ n, l.length = n + 1 := ⟨l.length - 1, by omega⟩
    have hle := h.le
    obtain ⟨hi, _, _, _⟩ := atN_facts k l.length hl hle
    have HA := Lib.hid (at_ref k h hl)
    obtain ⟨ao, cap, rfl⟩ := h.own.form
    obtain ⟨g0, off, hao, _⟩ := pk_get h.own.here h1
    obtain ⟨g, hao'⟩ := h.own.block (by rw [hao]; simp [Value.ownBlock])
    subst hao'
    rw [h2, h3]
    have h' := h
    rw [hn] at h'
    have HG := Lib.hid (gone_ref (atN k l.length) hn (by omega) h')
    rw [hn] at HG HA hi ⊢
    generalize atN k (n + 1) = i at *
    have hi0 : ¬ (i : Int) < 0 := by omega
    clear h h' h1 h2 h3 h4 hn hao hl hle
    go_enter Try.func16, Try.ntmps16
    go_wp2_with fail
    refine HA.out.mono ?_
    rintro e w1 ⟨rfl, rfl⟩
    go_wp2_with fail
    refine HG.out.mono ?_
    rintro e w2 ⟨rfl, v2, hL2, hK2, hf2⟩
    go_wp2_with fail
    go_ret
    exact ⟨rfl, v2, hL2, hK2, hf2⟩
  · obtain rfl : l = [] := List.length_eq_zero_iff.1 (by omega)
    have HA := Lib.hid (at_nil_ref k h)
    have HH := Lib.hid h
    obtain ⟨g1, g2, g3⟩ := gone_none k
    rw [g1, g2]
    clear h hl g1 g2 g3
    go_enter Try.func16, Try.ntmps16
    go_wp2_with fail
    refine HA.out.mono ?_
    rintro e w1 ⟨rfl, rfl⟩
    go_wp2_with fail
    go_ret
    exact ⟨rfl, v, HH.out, Kept.refl _ _, fun k hk => .inl hk⟩
set_option maxHeartbeats 4000000 in
set_option maxRecDepth 100000 in
theorem take_ref {b : Nat} {v : Value} {room : Nat} {l : List Pk} {w : World} (k : Int) (hs : ∀ p ∈ l, p.1.size ≤ 12002) (h : Lk 38 b v room l w) :
    Calls Try.prog 13 #[.pointer (some ⟨b, 0, none⟩), .int .i64 k] w (LkPost 38 b v room (goneL k l) (.tuple #[.string (takeS k l), .bool (takeB k l), .int .i64 (goneE l)]) w) := by
  by_cases hl : 0 < l.length
  · obtain ⟨p, h1, h2, h3, h4⟩ := gone_some k hl h.le
    have hps : p.1.size ≤ 12002 := hs p (List.mem_of_getElem? h1)
    have e1 : takeS k l = Crc.openS p.1 := by unfold takeS; rw [if_pos hl, h4]
    have e2 : takeB k l = Crc.openB p.1 := by unfold takeB; rw [if_pos hl, h4]
    rw [e1, e2, h3, h2]
    have HP := Lib.hid (fun w' => open_ref p.1 w' (by omega))
    obtain ⟨n, hn⟩ : ∃ n, l.length = n + 1 := ⟨l.length - 1, by omega⟩
    have hle := h.le
    obtain ⟨hi, _, _, _⟩ := atN_facts k l.length hl hle
    have HA := Lib.hid (at_ref k h hl)
    obtain ⟨ao, cap, rfl⟩ := h.own.form
    obtain ⟨g0, off, hao, _, hgl, hok, y0, y1⟩ := pk_get h.own.here h1
    obtain ⟨g, hao'⟩ := h.own.block (by rw [hao]; simp [Value.ownBlock])
    rw [hao'] at hao
    simp only [Option.some.injEq, Addr.mk.injEq, and_true] at hao
    obtain ⟨rfl, rfl⟩ := hao
    subst hao'
    have h' := h
    rw [hn] at h'
    have hb1 : Below w.heap.size w (w.alloc (.cells #[.string p.1, .bool p.2] 38)) := (Below.refl _ _).alloc (Nat.le_refl _) _
    have HG := Lib.hid (gone_ref (atN k l.length) hn (by omega) (h'.step hb1))
    have c1 := h'.c1
    have hbl := h'.lt
    have hgl0 := h'.own.lt g rfl
    rw [hn] at HG HA hi y0 y1 ⊢
    generalize atN k (n + 1) = i at *
    have hi0 : ¬ (i : Int) < 0 := by omega
    have hi1 : (i : Int) < (n : Int) + 1 := by omega
    simp only [Nat.zero_add] at y0 y1
    have HB1 := Lib.hid hb1
    have Q0 := Lib.hid (show ∀ w', Kept (foot b (.slice (some ⟨g, 0, none⟩) (n + 1) cap)) (w.alloc (.cells #[.string p.1, .bool p.2] 38)) w' → w'.cell? ⟨w.heap.size, 0, none⟩ = some (.string p.1) from fun w' hk => (hk.cell (p := ⟨w.heap.size, 0, none⟩) (by simp) (by
      intro hf
      rcases hf with e | e
      · have : w.heap.size = b := e
        omega
      · have : w.heap.size = g := by injection e
        omega)).trans (by simp [go_sem]))
    clear h h' h1 h2 h3 h4 hn hl hle hok hs hb1 e1 e2
    go_enter Try.func13, Try.ntmps13
    go_wp2_with fail
    refine HA.out.mono ?_
    rintro e w1 ⟨rfl, rfl⟩
    go_wp2_with fail
    refine HG.out.mono ?_
    rintro e w2 ⟨rfl, v2, hL2, hK2, hf2⟩
    have q0 := Q0.out _ hK2
    go_wp2_with fail
    refine (HP.out _).mono ?_
    rintro e w3 ⟨rfl, hb3⟩
    go_wp2_with fail
    go_ret3
    exact ⟨rfl, v2, hL2.step hb3, ((Kept.of_below HB1.out _).trans hK2 (fun _ _ h => h) (fun _ _ h => h)).step hb3, fun k hk => (hf2 k hk).imp id (fun h => Nat.le_trans HB1.out.size h)⟩
  · obtain rfl : l = [] := List.length_eq_zero_iff.1 (by omega)
    have HA := Lib.hid (at_nil_ref k h)
    have HH := Lib.hid h
    obtain ⟨g1, g2, g3⟩ := gone_none k
    have e1 : takeS k [] = ByteArray.empty := rfl
    have e2 : takeB k [] = false := rfl
    rw [g1, g2, e1, e2]
    clear h hl g1 g2 g3 hs e1 e2
    go_enter Try.func13, Try.ntmps13
    go_wp2_with fail
    refine HA.out.mono ?_
    rintro e w1 ⟨rfl, rfl⟩
    go_wp2_with fail
    go_ret3
    exact ⟨rfl, v, HH.out, Kept.refl _ _, fun k hk => .inl hk⟩
end Go.Proofs.Ythloiancndlagaa
