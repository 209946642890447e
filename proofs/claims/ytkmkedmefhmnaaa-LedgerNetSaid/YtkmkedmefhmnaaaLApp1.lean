/- The reference's Apply: with, without, the loops. -/
import Derived.Test.YtkmkedmefhmnaaaLPure
import Derived.Test.YtkmkedmefhmnaaaRd2
import Derived.Deep.RegionLaw
namespace Lift
open Go Go.ChangeShapes Go.WideShapes Go.ChangeAt Go.RowKit Go.Deep
set_option linter.unusedVariables false
/-- 'append(l, m...)' at a step of a region that draws its order. -/
theorem step_pushAll {α : Type} (r : Rd α) {P : Program} {w : World} {ops : Array Oper} {o : Oper} {a : Act} {K : Act → World → Prop} {Q : Exit → Act → World → Prop} {E : Prop} (hgd : o.guard = none) (s x : Operand) (t : TypeId)
    (ho : o.op = .call { callee := .builtin .append, args := #[s, x], argTypes := #[t, t] })
    (base : Nat) (e : TypeId) (i : TypeInfo) (z : Value) (bytes : Nat) (ht : P.underlying t = some (.slice e)) (hi : P.info? e = some i) (hz : i.zero = some z)
    (hsize : i.size = r.n) (hby : i.bytes = bytes) (hzs : z.cells.size = r.n) (hsz : 0 < r.n)
    (S : Nat → Prop) (v : Value) (l : List α) (hs : a.eval s = v) (hO : Own r S w base e v l) (ao : Option Addr) (cap : Nat) (m : List α) (k : Nat) (hx : a.eval x = .slice ao k cap) (hkm : k = m.length) (hnone : ao = none → cap = 0)
    (hm : SlAt r (fun b => S b ∧ some b ≠ v.ownBlock) w ao m) (h1 : ∀ S w cs c, r.rel S w cs c → ∀ u ∈ cs, u.oneCell' = true)
    (h63 : l.length + m.length ≤ maxLen) (hbytes : (l.length + m.length) * bytes ≤ 140737488355328) (hbase : base ≤ w.heap.size)
    (h : ∀ v' w', Own r S w' base e v' (l ++ m) → Kept (fun k => some k = v.ownBlock) w w' → (v'.ownBlock = v.ownBlock ∨ ∃ g, v'.ownBlock = some g ∧ w.heap.size ≤ g) → K (a.put o.dst v') w') :
    if Region.wanted o (yielded ops a.tmps) = true then Oper.wp P o a w K Q else E := by
  subst hkm
  obtain ⟨xs, hown, hrows⟩ := hO
  obtain ⟨ys, hy1, hy2, hy3⟩ := hm.news
  refine step_append2 hgd s x t ho base e i z r.n bytes ht hi hz hsize hby hzs hsz v l.length xs hs hown ao m.length cap ys hx ?_ hy1 hy3 ?_ h63 hbytes hbase ?_
  · intro h0
    refine ⟨?_, hnone h0⟩
    rcases hm with rfl | ⟨b, off, h2, _⟩
    · rfl
    · rw [h0] at h2; cases h2
  · intro u hu
    obtain ⟨css, rfl, hl, hrel⟩ := hy2
    obtain ⟨cs, hcs, hu2⟩ := List.mem_flatten.1 hu
    obtain ⟨j, hj, rfl⟩ := List.getElem_of_mem hcs
    obtain ⟨cs', h3, h4⟩ := hrel j m[j] (by simp)
    rw [List.getElem?_eq_getElem hj] at h3
    rw [Option.some.inj h3] at hu2
    exact h1 _ _ _ _ h4 u hu2
  · intro v' w' hown2 hg _ hw
    exact h v' w' (Own.append hrows hy2 hown2 (by simp) hg hw) (Kept.of_grown hg) hw
theorem wpList_pushAllK {α : Type} (r : Rd α) {P : Program} {w : World} {ops : Array Oper} {rest : List Oper} {o : Oper} {a : Act} {Q : Exit → Act → World → Prop} (hgd : o.guard = none) (s x : Operand) (t : TypeId)
    (ho : o.op = .call { callee := .builtin .append, args := #[s, x], argTypes := #[t, t] })
    (base : Nat) (e : TypeId) (i : TypeInfo) (z : Value) (bytes : Nat) (ht : P.underlying t = some (.slice e)) (hi : P.info? e = some i) (hz : i.zero = some z)
    (hsize : i.size = r.n) (hby : i.bytes = bytes) (hzs : z.cells.size = r.n) (hsz : 0 < r.n)
    (S : Nat → Prop) (v : Value) (l : List α) (hs : a.eval s = v) (hO : Own r S w base e v l) (ao : Option Addr) (cap : Nat) (m : List α) (k : Nat) (hx : a.eval x = .slice ao k cap) (hkm : k = m.length) (hnone : ao = none → cap = 0)
    (hm : SlAt r (fun b => S b ∧ some b ≠ v.ownBlock) w ao m) (h1 : ∀ S w cs c, r.rel S w cs c → ∀ u ∈ cs, u.oneCell' = true)
    (h63 : l.length + m.length ≤ maxLen) (hbytes : (l.length + m.length) * bytes ≤ 140737488355328) (hbase : base ≤ w.heap.size)
    (h : ∀ v' w', Own r S w' base e v' (l ++ m) → Kept (fun k => some k = v.ownBlock) w w' → (v'.ownBlock = v.ownBlock ∨ ∃ g, v'.ownBlock = some g ∧ w.heap.size ≤ g) → wpList P ops Q rest (a.put o.dst v') w') :
    wpList P ops Q (o :: rest) a w := by
  subst hkm
  exact wpList_pushAll r hgd s x t ho base e i z bytes ht hi hz hsize hby hzs hsz S v l hs hO ao cap m hx hnone hm h1 h63 hbytes hbase h
/-- A slice that is read, behind a call. -/
def ReadPost {α : Type} (r : Rd α) (l : List α) (w : World) (x : Ending) (w' : World) : Prop := ∃ ao cap, x = .returned (.slice ao l.length cap) ∧ SlAt r (· < w'.heap.size) w' ao l ∧ l.length ≤ cap ∧ (ao = none → cap = 0) ∧ Below w.heap.size w w'
theorem int_one : ∀ S w cs (c : Int), (Rd.int .i64).rel S w cs c → ∀ u ∈ cs, u.oneCell' = true := by
  rintro S w cs c ⟨rfl, _⟩ u hu; simp at hu; subst hu; rfl
theorem int_get {S : Nat → Prop} {w : World} {ao : Option Addr} {l : List Int} (h : SlAt (Rd.int .i64) S w ao l) {k : Nat} {c : Int} (hk : l[k]? = some c) : ∃ b off, ao = some ⟨b, off, none⟩ ∧ S b ∧ b < w.heap.size ∧ w.cell? ⟨b, off + k, none⟩ = some (.int .i64 c) ∧ Wf c := by
  obtain ⟨b, off, cs, rfl, hs, hlt, ⟨rfl, hw⟩, hc⟩ := h.get hk
  refine ⟨b, off, rfl, hs, hlt, ?_, hw⟩
  have := hc 0 _ rfl
  simpa [Rd.int] using this
theorem SlAt.from' {α : Type} {r : Rd α} {S : Nat → Prop} {w : World} {b off : Nat} {l : List α} (h : SlAt r S w (some ⟨b, off, none⟩) l) (k : Nat) : SlAt r S w (some ⟨b, off + k * r.n, none⟩) (l.drop k) := by
  rcases h with rfl | ⟨b', off', e, hs, hlt, h⟩
  · exact .inl (by simp)
  · injection e with e; injection e with e1 e2
    subst e1; subst e2
    refine .inr ⟨_, _, rfl, hs, hlt, fun j c hj => ?_⟩
    rw [List.getElem?_drop] at hj
    obtain ⟨cs, h1, h2⟩ := h _ c hj
    refine ⟨cs, h1, ?_⟩
    rw [Nat.add_assoc, ← Nat.add_mul]; exact h2
theorem SlAt.upto {α : Type} {r : Rd α} {S : Nat → Prop} {w : World} {ao : Option Addr} {l : List α} (h : SlAt r S w ao l) (k : Nat) : SlAt r S w ao (l.take k) := by
  rcases h with rfl | ⟨b', off', e, hs, hlt, h⟩
  · exact .inl (by simp)
  · refine .inr ⟨_, _, e, hs, hlt, fun j c hj => h j c ?_⟩
    rw [List.getElem?_take] at hj
    split at hj
    · exact hj
    · cases hj
end Lift
namespace Go.Proofs.Ytkmkedmefhmnaaa
open Go.RowKit Lift
set_option linter.unusedSimpArgs false
set_option linter.unusedVariables false

theorem info3 : (Try.prog.info? 3).map (fun i => (i.zero, i.size, i.bytes)) = some (some (.int .i64 0), 1, 8) := by kernel_rfl

set_option maxHeartbeats 1000000 in
set_option maxRecDepth 100000 in
theorem without_ref (ao : Option Addr) (cap : Nat) (s : List Int) (n : Int) (w : World) (hl : SlAt (Rd.int .i64) (· < w.heap.size) w ao s) (hlen : s.length ≤ 100000) :
    Calls Try.prog 26 #[.slice ao s.length cap, .int .i64 n] w (RowPost (Rd.int .i64) 3 (withoutL n s) w) := by
  obtain ⟨i0, hi, hz0, hz1, hz2⟩ := info_parts info3
  have HI := Lib.hid hi; have HZ0 := Lib.hid hz0; have HZ1 := Lib.hid hz1; have HZ2 := Lib.hid hz2
  clear hi hz0 hz1 hz2
  go_enter Try.func26, Try.ntmps26
  go_wp2_with fail
  go_loopw [5, 6] (fun v5 v6 wr => ∃ k : Nat, k ≤ s.length ∧ v6 = .int .i64 k ∧ Own (Rd.int .i64) (fun _ => True) wr w.heap.size 3 v5 (withoutL n (s.take k)) ∧ Below w.heap.size w wr) (fun _ v6 _ => s.length - (intOf v6).toNat)
  case atStart => exact ⟨0, by omega, rfl, Own.nil _ _ _ _ _, Below.refl _ _⟩
  case round =>
    obtain ⟨k, hk, rfl, hO, hb⟩ := hrel
    have hsz := hb.size
    by_cases hkl : k < s.length
    · obtain ⟨c, hcl⟩ := some_at hkl
      obtain ⟨b1, o1, rfl, _, hb1, x1, g1⟩ := int_get (hl.old hb) hcl
      have hlim : k ≤ 100000 := by omega
      have hfl : (withoutL n (s.take k)).length ≤ k := Nat.le_trans without_len (by simp; omega)
      by_cases hc : c = n
      · have HT := Lib.hid (show withoutL n (s.take (k + 1)) = withoutL n (s.take k) by rw [take_at2 hcl]; simp [withoutL, hc])
        have hcn : (c != n) = false := by simp [hc]
        go_wp2_with fail
        go_roundw
        case measure => simp [intOf]; omega
        case rel => exact ⟨k + 1, by omega, by go_num, by rw [HT.out]; exact hO, hb⟩
      · have HT := Lib.hid (show withoutL n (s.take (k + 1)) = withoutL n (s.take k) ++ [c] by rw [take_at2 hcl]; simp [withoutL, hc])
        have hcn : (c != n) = true := by simp [hc]
        go_wp2_with (first
          | (at_builtin; refine wpList_push (Rd.int .i64) rfl _ _ 33 rfl w.heap.size 3 i0 _ 8 Try.underlying33 HI.out HZ0.out HZ1.out HZ2.out rfl (by decide) (fun _ => True) _ (withoutL n (s.take k)) rfl hO [.int .i64 c] c _ rfl (by simp) ⟨rfl, g1⟩ (by simp [Value.oneCell']) (by unfold maxLen; omega) (by omega) (by omega) ?_; intro v2 w2 hO2 hK2 hw2))
        have hB2 := hO.kbelow (B := w.heap.size) (by omega) hsz hK2
        go_roundw
        case measure => simp [intOf]; omega
        case rel => exact ⟨k + 1, by omega, by go_num, by rw [HT.out]; exact hO2, hb.trans hB2⟩
    · obtain rfl : k = s.length := by omega
      rw [List.take_length] at hO
      obtain ⟨ao2, cap2, rfl⟩ := hO.form
      go_wp2_with fail
      go_ret
      exact ⟨ao2, cap2, rfl, hO, hb⟩

set_option maxHeartbeats 1000000 in
set_option maxRecDepth 100000 in
theorem with_ref (ao : Option Addr) (cap : Nat) (s : List Int) (n : Int) (hn : Wf n) (w : World) (hl : SlAt (Rd.int .i64) (· < w.heap.size) w ao s) (hcap : s.length ≤ cap) (hnone : ao = none → cap = 0) (hlen : s.length ≤ 100000) :
    Calls Try.prog 25 #[.slice ao s.length cap, .int .i64 n] w (ReadPost (Rd.int .i64) (withL n s) w) := by
  obtain ⟨i0, hi, hz0, hz1, hz2⟩ := info_parts info3
  have HI := Lib.hid hi; have HZ0 := Lib.hid hz0; have HZ1 := Lib.hid hz1; have HZ2 := Lib.hid hz2
  clear hi hz0 hz1 hz2
  go_enter Try.func25, Try.ntmps25
  go_wp2_with fail
  go_loopw [5] (fun v5 wr => ∃ k : Nat, k ≤ s.length ∧ v5 = .int .i64 k ∧ Hid (∀ (j : Nat) (x : Int), j < k → s[j]? = some x → x < n) ∧ Below w.heap.size w wr) (fun v5 _ => s.length - (intOf v5).toNat)
  case atStart => exact ⟨0, by omega, rfl, Lib.hid (fun j x h => by omega), Below.refl _ _⟩
  case round =>
    obtain ⟨k, hk, rfl, hlow, hb⟩ := hrel
    have hsz := hb.size
    have hlim : k ≤ 100000 := by omega
    by_cases hkl : k < s.length
    · obtain ⟨c, hcl⟩ := some_at hkl
      obtain ⟨b1, o1, rfl, _, hb1, x1, g1⟩ := int_get (hl.old hb) hcl
      by_cases hc : c < n
      · have HT := Lib.hid (show ∀ (j : Nat) (x : Int), j < k + 1 → s[j]? = some x → x < n by
          intro j x hj hx
          by_cases e : j = k
          · subst e; rw [hcl] at hx; cases hx; exact hc
          · exact hlow.out j x (by omega) hx)
        go_wp2_with fail
        go_roundw
        case measure => simp [intOf]; omega
        case rel => exact ⟨k + 1, by omega, by go_num, HT, hb⟩
      · by_cases hq : c = n
        · subst hq
          have HE := Lib.hid ((with_at hk hlow.out).1 hcl)
          go_wp2_with fail
          go_ret
          exact ⟨some ⟨b1, o1, none⟩, cap, by rw [HE.out]; rfl, by rw [HE.out]; exact (hl.old hb).here, by rw [HE.out]; exact hcap, hnone, hb⟩
        · have HE := Lib.hid ((with_at hk hlow.out).2 (fun x hx => by rw [hcl] at hx; cases hx; omega))
          have hcq : (c == n) = false := by simp [hq]
          have hck : ¬ cap = k := by omega
          have HM := Lib.hid (show SlAt (Rd.int .i64) (fun b => True ∧ some b ≠ some wr.heap.size) (wr.alloc (.cells #[] 3)) (some ⟨b1, o1, none⟩) s from ((hl.old hb).mono (fun b h1 h2 => ⟨trivial, by simp; omega⟩)).below ((Below.refl _ _).alloc (Nat.le_refl _) _))
          go_wp2_with (first
            | (at_builtin; refine wpList_pushAllK (Rd.int .i64) rfl _ _ 33 rfl w.heap.size 3 i0 _ 8 Try.underlying33 HI.out HZ0.out HZ1.out HZ2.out rfl (by decide) (fun _ => True) _ [] rfl (own_made2 _ _ wr w.heap.size _ _ hsz rfl) (some ⟨b1, o1, none⟩) cap (s.take k) k rfl (by simp; omega) hnone (HM.out.upto k) int_one (by unfold maxLen; simp; omega) (by simp; omega) (by simp; omega) ?_; intro v2 w2 hO2 hK2 hw2))
          have hOm := own_made2 (Rd.int .i64) (fun _ => True) wr w.heap.size _ 3 hsz rfl
          have hB2 := hOm.kbelow (B := w.heap.size) (by omega) (by simp; omega) hK2
          have hB2' := (hb.alloc hsz (.cells #[] 3)).trans hB2
          have hS2 := hB2'.size
          rw [List.nil_append] at hO2
          have HO2 := Lib.hid (hO2.below ((Below.refl _ _).drew))
          have HB3 := Lib.hid (show ∀ w3, Kept (fun j => some j = v2.ownBlock) w2.drew w3 → Below w.heap.size w w3 from fun w3 h => hB2'.drew.trans (HO2.out.kbelow (B := w.heap.size) (by omega) (by simpa using hS2) h))
          have HM2 := Lib.hid (show ∀ w3 (v3 : Value), Below w.heap.size w w3 → (∀ j, v3.ownBlock = some j → w.heap.size ≤ j) → SlAt (Rd.int .i64) (fun b => True ∧ some b ≠ v3.ownBlock) w3 (some ⟨b1, o1 + k, none⟩) (s.drop k) by
            intro w3 v3 h3 h4
            have h5 := ((hl.old h3).mono (S' := fun b => True ∧ some b ≠ v3.ownBlock) (fun b h1 h2 => ⟨trivial, fun e => by have := h4 b e.symm; omega⟩)).from' k
            simpa [Rd.int] using h5)
          go_region_law (first
            | (refine step_push (Rd.int .i64) rfl (.tmp 39) (.tmp 41) 33 rfl w.heap.size 3 i0 _ 8 Try.underlying33 HI.out HZ0.out HZ1.out HZ2.out rfl (by decide) (fun _ => True) _ (s.take k) (by rfl) HO2.out [.int .i64 n] n _ (by rfl) (by simp) ⟨rfl, hn⟩ (by simp [Value.oneCell']) (by unfold maxLen; simp; omega) (by simp; omega) (by simp; omega) ?_; intro v3 w3 hO3 hK3 hw3)
            | (refine step_pushAll (Rd.int .i64) rfl (.tmp 42) (.tmp 45) 33 rfl w.heap.size 3 i0 _ 8 Try.underlying33 HI.out HZ0.out HZ1.out HZ2.out rfl (by decide) (fun _ => True) _ (s.take k ++ [n]) (by rfl) hO3 (some ⟨b1, o1 + k, none⟩) (cap - k) (s.drop k) (s.length - k) (by rfl) (by simp) (by simp) (HM2.out _ _ (HB3.out _ hK3) (fun j hj => (hO3.lt j hj).1)) int_one (by unfold maxLen; simp; omega) (by simp; omega) (HB3.out _ hK3).size ?_; intro v4 w4 hO4 hK4 hw4))
          have hB4 := (HB3.out _ hK3).trans (hO3.kbelow (B := w.heap.size) (by omega) (HB3.out _ hK3).size hK4)
          obtain ⟨ao4, cap4, rfl⟩ := hO4.form
          go_wp2_with fail
          go_ret
          exact ⟨ao4, cap4, by rw [HE.out]; rfl, by rw [HE.out]; exact hO4.here, by rw [HE.out]; exact hO4.cap.1, hO4.cap.2.2.2, hB4⟩
    · obtain rfl : k = s.length := by omega
      have HE := Lib.hid ((with_at hk hlow.out).2 (fun x hx => by simp at hx))
      have HM := Lib.hid (show SlAt (Rd.int .i64) (fun b => True ∧ some b ≠ some wr.heap.size) (wr.alloc (.cells #[] 3)) ao s from ((hl.old hb).mono (fun b h1 h2 => ⟨trivial, by simp; omega⟩)).below ((Below.refl _ _).alloc (Nat.le_refl _) _))
      cases ao with
      | none =>
        obtain rfl := hnone rfl
        obtain rfl : s = [] := List.eq_nil_of_length_eq_zero (by omega)
        go_wp2_with (first
          | (at_builtin; refine wpList_pushAllK (Rd.int .i64) rfl _ _ 33 rfl w.heap.size 3 i0 _ 8 Try.underlying33 HI.out HZ0.out HZ1.out HZ2.out rfl (by decide) (fun _ => True) _ [] rfl (own_made2 _ _ wr w.heap.size _ _ hsz rfl) _ _ [] _ rfl (by simp <;> omega) hnone (HM.out.upto 0) int_one (by unfold maxLen; simp <;> omega) (by simp <;> omega) (by simp <;> omega) ?_; intro v2 w2 hO2 hK2 hw2))
        have hOm := own_made2 (Rd.int .i64) (fun _ => True) wr w.heap.size _ 3 hsz rfl
        have hB2 := hOm.kbelow (B := w.heap.size) (by omega) (by simp <;> omega) hK2
        have hB2' := (hb.alloc hsz (.cells #[] 3)).trans hB2
        have hS2 := hB2'.size
        rw [List.nil_append] at hO2
        have HO2 := Lib.hid (hO2.below ((Below.refl _ _).drew))
        have HB3 := Lib.hid (show ∀ w3, Kept (fun j => some j = v2.ownBlock) w2.drew w3 → Below w.heap.size w w3 from fun w3 h => hB2'.drew.trans (HO2.out.kbelow (B := w.heap.size) (by omega) (by simpa using hS2) h))
        go_region_law (first
          | (refine step_push (Rd.int .i64) rfl (.tmp 39) (.tmp 41) 33 rfl w.heap.size 3 i0 _ 8 Try.underlying33 HI.out HZ0.out HZ1.out HZ2.out rfl (by decide) (fun _ => True) _ [] (by rfl) HO2.out [.int .i64 n] n _ (by rfl) (by simp) ⟨rfl, hn⟩ (by simp [Value.oneCell']) (by unfold maxLen; simp <;> omega) (by simp <;> omega) (by simp <;> omega) ?_; intro v3 w3 hO3 hK3 hw3)
          | (refine step_pushAll (Rd.int .i64) rfl (.tmp 42) (.tmp 45) 33 rfl w.heap.size 3 i0 _ 8 Try.underlying33 HI.out HZ0.out HZ1.out HZ2.out rfl (by decide) (fun _ => True) _ [n] (by rfl) hO3 _ _ [] _ (by rfl) (by simp) (by simp) (.inl (by simp)) int_one (by unfold maxLen; simp <;> omega) (by simp <;> omega) (HB3.out _ hK3).size ?_; intro v4 w4 hO4 hK4 hw4))
        have hB4 := (HB3.out _ hK3).trans (hO3.kbelow (B := w.heap.size) (by omega) (HB3.out _ hK3).size hK4)
        obtain ⟨ao4, cap4, rfl⟩ := hO4.form
        go_wp2_with fail
        go_ret
        exact ⟨ao4, cap4, by rw [HE.out]; rfl, by rw [HE.out]; exact hO4.here, by rw [HE.out]; exact hO4.cap.1, hO4.cap.2.2.2, hB4⟩
      | some a0 =>
        go_wp2_with (first
          | (at_builtin; refine wpList_pushAllK (Rd.int .i64) rfl _ _ 33 rfl w.heap.size 3 i0 _ 8 Try.underlying33 HI.out HZ0.out HZ1.out HZ2.out rfl (by decide) (fun _ => True) _ [] rfl (own_made2 _ _ wr w.heap.size _ _ hsz rfl) _ cap (s.take s.length) s.length rfl (by simp <;> omega) hnone (HM.out.upto s.length) int_one (by unfold maxLen; simp <;> omega) (by simp <;> omega) (by simp <;> omega) ?_; intro v2 w2 hO2 hK2 hw2))
        have hOm := own_made2 (Rd.int .i64) (fun _ => True) wr w.heap.size _ 3 hsz rfl
        have hB2 := hOm.kbelow (B := w.heap.size) (by omega) (by simp <;> omega) hK2
        have hB2' := (hb.alloc hsz (.cells #[] 3)).trans hB2
        have hS2 := hB2'.size
        rw [List.nil_append] at hO2
        have HO2 := Lib.hid (hO2.below ((Below.refl _ _).drew))
        have HB3 := Lib.hid (show ∀ w3, Kept (fun j => some j = v2.ownBlock) w2.drew w3 → Below w.heap.size w w3 from fun w3 h => hB2'.drew.trans (HO2.out.kbelow (B := w.heap.size) (by omega) (by simpa using hS2) h))
        go_region_law (first
          | (refine step_push (Rd.int .i64) rfl (.tmp 39) (.tmp 41) 33 rfl w.heap.size 3 i0 _ 8 Try.underlying33 HI.out HZ0.out HZ1.out HZ2.out rfl (by decide) (fun _ => True) _ (s.take s.length) (by rfl) HO2.out [.int .i64 n] n _ (by rfl) (by simp) ⟨rfl, hn⟩ (by simp [Value.oneCell']) (by unfold maxLen; simp <;> omega) (by simp <;> omega) (by simp <;> omega) ?_; intro v3 w3 hO3 hK3 hw3)
          | (refine step_pushAll (Rd.int .i64) rfl (.tmp 42) (.tmp 45) 33 rfl w.heap.size 3 i0 _ 8 Try.underlying33 HI.out HZ0.out HZ1.out HZ2.out rfl (by decide) (fun _ => True) _ (s.take s.length ++ [n]) (by rfl) hO3 _ (cap - s.length) (s.drop s.length) _ (by rfl) (by simp) (by intro h; split at h <;> cases h) (.inl (by simp)) int_one (by unfold maxLen; simp <;> omega) (by simp <;> omega) (HB3.out _ hK3).size ?_; intro v4 w4 hO4 hK4 hw4))
        all_goals
          have hB4 := (HB3.out _ hK3).trans (hO3.kbelow (B := w.heap.size) (by omega) (HB3.out _ hK3).size hK4)
          obtain ⟨ao4, cap4, rfl⟩ := hO4.form
          go_wp2_with fail
        all_goals
          go_ret
          exact ⟨ao4, cap4, by rw [HE.out]; simp, by rw [HE.out]; exact hO4.here, by rw [HE.out]; exact hO4.cap.1, hO4.cap.2.2.2, hB4⟩
end Go.Proofs.Ytkmkedmefhmnaaa
