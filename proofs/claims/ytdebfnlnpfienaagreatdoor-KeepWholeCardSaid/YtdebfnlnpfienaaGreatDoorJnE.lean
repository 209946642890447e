/- Open: what it computes; what its loop keeps. -/
import Derived.Test.YtdebfnlnpfienaaGreatDoorJnFound
import Derived.Test.YtdebfnlnpfienaaGreatDoorJnForm2
import Derived.Test.YtdebfnlnpfienaaGreatDoorOrdLast
import Derived.Test.YtdebfnlnpfienaaGreatDoorShelf
import Derived.RangeFuncNested
import Derived.RangeFuncBound
import Derived.RangeFuncCalls
import Derived.RangeFuncLeaves
import Derived.Shelf.Abstract
import Derived.Shelf.RegionOpen
import Derived.WalkKit
import Derived.OwnWalkIn
import Derived.TacticsInMore
import Derived.LoopNIn
import Derived.LoopIn
import Derived.Test.YtdebfnlnpfienaaGreatDoorJnVals
namespace Go.Proofs.YtdebfnlnpfienaaGreatDoor
open Go.RowKit Go.Shelf Lift
set_option linter.unusedSimpArgs false
set_option linter.unusedVariables false

/-! ### What Open computes -/
def allZ (no : Secs) (en : Nat) : Bool := (no.getD en []).all (· == 0)
def openOps (no : Secs) (en : Nat) : List Step := if allZ no en then [] else clearOps en
def openL (st : St) (js : JSt) : List ByteArray × Nat := foundL (fun t en => nextRec st.no js.lim js.gen t en) js.lim [] js.en
def openR (st : St) (js : JSt) : St × Int := if st.off then (st, 12) else runOps st (openOps st.no (openL st js).2)
def openJ (st : St) (js : JSt) : JSt := { js with recs := (openL st js).1, en := (openL st js).2 }
theorem trim_none (l : List UInt8) : ((⟨(Lib.trimB l 0).toArray⟩ : ByteArray) = ⟨#[]⟩) ↔ l.all (· == 0) = true := by
  have e1 : ((⟨(Lib.trimB l 0).toArray⟩ : ByteArray) = ⟨#[]⟩) ↔ Lib.trimB l 0 = [] := by
    constructor
    · intro h; injection h with h; simpa using h
    · intro h; rw [h]
  rw [e1]
  have hz : ∀ m : List UInt8, m.dropWhile (· == 0) = [] ↔ m.all (· == 0) = true := by
    intro m
    induction m with
    | nil => simp
    | cons a m ih =>
      simp only [List.dropWhile_cons, List.all_cons, Bool.and_eq_true]
      split
      · rename_i h; rw [ih]; simp [h]
      · rename_i h; simp only [reduceCtorEq, false_iff, not_and]; intro h'; exact absurd h' h
  unfold Lib.trimB Lib.trimLeftB Lib.trimRightB
  rw [hz]
  constructor
  · intro h
    have h2 : l.reverse.all (· == 0) = true := by
      rw [List.all_eq_true]
      intro x hx
      rw [← List.takeWhile_append_dropWhile (p := (· == 0)) (l := l.reverse)] at hx
      rcases List.mem_append.1 hx with h1 | h1
      · have ht : ∀ (m : List UInt8) (y : UInt8), y ∈ m.takeWhile (· == 0) → (y == 0) = true := by
          intro m y
          induction m with
          | nil => simp
          | cons a m ih =>
            simp only [List.takeWhile_cons]
            split
            · rename_i h; intro hy; rcases List.mem_cons.1 hy with rfl | hy
              · exact h
              · exact ih hy
            · intro hy; cases hy
        exact ht _ _ h1
      · exact List.all_eq_true.1 h x (List.mem_reverse.2 h1)
    simpa using h2
  · intro h
    have h2 : l.reverse.dropWhile (· == 0) = [] := (hz _).2 (by simpa using h)
    rw [h2]; rfl
theorem jsOf_new (a sz gen : Nat) : jsOf (JSt.new a sz gen) [] = JSt.new a sz gen := by simp [jsOf, enOf, JSt.new]

/-! ### What the loop keeps -/
theorem own_cells {α : Type} {r : Rd α} {S : Nat → Prop} {w : World} {base : Nat} {e : TypeId} {v : Value} {l : List α} (h : Lift.Own r S w base e v l) {k : Nat} (hk : v.ownBlock = some k) : ∃ cs, w.heap[k]? = some (.cells cs e (0, 0)) := by
  obtain ⟨xs, ⟨_, h | ⟨g, cap, cur, rfl, _, hc, _⟩⟩, _⟩ := h
  · rw [h.1] at hk; cases hk
  · cases hk; exact ⟨cur, hc⟩
/-- Of a world of Open's loop: w the world that it was called in, B where the loop's own blocks begin. -/
structure OI (base : Nat) (w : World) (F : Fp) (st : St) (js : JSt) (jx eb jb fb B : Nat) (pre : List ByteArray) (W : World) : Prop where
  j : ∃ J, J.b = w.heap.size ∧ JRaw base W F st J (jsOf js pre) ∧ ∀ k, J.lv.ownBlock = some k → B ≤ k
  c0 : W.cell? ⟨jx, 0, none⟩ = some (.pointer (some ⟨w.heap.size, 0, none⟩))
  c1 : W.cell? ⟨jb, 0, none⟩ = some (.pointer (some ⟨w.heap.size, 0, none⟩))
  c2 : W.cell? ⟨fb, 0, none⟩ = some (.pointer (some ⟨eb, 0, none⟩))
  c3 : ∃ v, W.cell? ⟨eb, 0, none⟩ = some v
  f3 : W.frozen? ⟨eb, 0, none⟩ = false
  n : w.heap.size < jx ∧ jx < eb ∧ eb < jb ∧ jb < fb ∧ fb < B ∧ B ≤ W.heap.size
  ft : ∀ k, foot F k → k < w.heap.size
  low : Kept (fun _ => False) w W
section
variable {base : Nat} {w : World} {F : Fp} {st : St} {js : JSt} {jx eb jb fb B : Nat} {pre : List ByteArray} {W W' : World}
theorem OI.jf (h : OI base w F st js jx eb jb fb B pre W) : ∃ J, J.b = w.heap.size ∧ JRaw base W F st J (jsOf js pre) ∧ (∀ k, J.lv.ownBlock = some k → B ≤ k) ∧ ∀ k, jfoot F J k → k ≤ w.heap.size ∨ B ≤ k := by
  obtain ⟨J, e1, e2, e3⟩ := h.j
  refine ⟨J, e1, e2, e3, fun k hk => ?_⟩
  rcases hk with hk | hk | hk
  · exact .inl (Nat.le_of_lt (h.ft k hk))
  · exact .inl (by omega)
  · exact .inr (e3 k hk.symm)
theorem OI.below (h : OI base w F st js jx eb jb fb B pre W) (hb : Below W.heap.size W W') : OI base w F st js jx eb jb fb B pre W' := by
  obtain ⟨J, e1, e2, e3⟩ := h.j
  obtain ⟨n1, n2, n3, n4, n5, n6⟩ := h.n
  have hz := hb.size
  obtain ⟨v, hv⟩ := h.c3
  exact ⟨⟨J, e1, e2.below hb, e3⟩, (hb.cell (p := ⟨jx, 0, none⟩) (by show jx < _; omega)).trans h.c0, (hb.cell (p := ⟨jb, 0, none⟩) (by show jb < _; omega)).trans h.c1, (hb.cell (p := ⟨fb, 0, none⟩) (by show fb < _; omega)).trans h.c2, ⟨v, (hb.cell (p := ⟨eb, 0, none⟩) (by show eb < _; omega)).trans hv⟩, (hb.frozen (p := ⟨eb, 0, none⟩) (by show eb < _; omega)).trans h.f3, ⟨n1, n2, n3, n4, n5, by omega⟩, h.ft, h.low.trans (Kept.of_below hb (fun _ => False)) (fun _ _ h => h) (fun _ _ h => h)⟩
theorem OI.set (h : OI base w F st js jx eb jb fb B pre W) (v : Value) : OI base w F st js jx eb jb fb B pre (W.setCell ⟨eb, 0, none⟩ v) := by
  obtain ⟨J, e1, e2, e3, e4⟩ := h.jf
  obtain ⟨n1, n2, n3, n4, n5, n6⟩ := h.n
  have hk := Kept.setCell (X := fun k => k = eb) W (p := ⟨eb, 0, none⟩) rfl v
  obtain ⟨u, hu⟩ := h.c3
  exact ⟨⟨J, e1, e2.kept hk (fun k hf e => by rcases e4 k hf with h | h <;> omega), e3⟩, (hk.cell (p := ⟨jx, 0, none⟩) (by show jx < _; omega) (by show ¬ jx = eb; omega)).trans h.c0, (hk.cell (p := ⟨jb, 0, none⟩) (by show jb < _; omega) (by show ¬ jb = eb; omega)).trans h.c1, (hk.cell (p := ⟨fb, 0, none⟩) (by show fb < _; omega) (by show ¬ fb = eb; omega)).trans h.c2, ⟨v, World.cell?_setCell_same _ _ _ hu⟩, by rw [World.frozen?_setCell]; exact h.f3, ⟨n1, n2, n3, n4, n5, Nat.le_trans n6 hk.size⟩, h.ft, h.low.trans hk (fun _ _ h => h) (fun k hk2 e => by omega)⟩
theorem OI.grown {row : Option Nat} (h : OI base w F st js jx eb jb fb B pre W) (hg : W.grownBy W' row) (hr : ∀ r, row = some r → B ≤ r ∧ ∃ o : Obj, W.heap[r]? = some o ∧ o.isCells = false) : OI base w F st js jx eb jb fb B pre W' := by
  obtain ⟨J, e1, e2, e3, e4⟩ := h.jf
  obtain ⟨n1, n2, n3, n4, n5, n6⟩ := h.n
  have hk : Kept (fun k => row = some k) W W' := ⟨hg.os, hg.tape, hg.output, hg.size, fun k h1 h2 => hg.block k h1 (fun e => h2 e.symm)⟩
  have hB : ∀ k, k < B → ¬ row = some k := fun k h1 e => by have := (hr k e).1; omega
  obtain ⟨v, hv⟩ := h.c3
  refine ⟨⟨J, e1, e2.kept hk (fun k hf e => ?_), e3⟩, (hk.cell (p := ⟨jx, 0, none⟩) (by show jx < _; omega) (hB jx (by omega))).trans h.c0, (hk.cell (p := ⟨jb, 0, none⟩) (by show jb < _; omega) (hB jb (by omega))).trans h.c1, (hk.cell (p := ⟨fb, 0, none⟩) (by show fb < _; omega) (hB fb (by omega))).trans h.c2, ⟨v, (hk.cell (p := ⟨eb, 0, none⟩) (by show eb < _; omega) (hB eb (by omega))).trans hv⟩, (hk.frozen (p := ⟨eb, 0, none⟩) (by show eb < _; omega) (hB eb (by omega))).trans h.f3, ⟨n1, n2, n3, n4, n5, Nat.le_trans n6 hk.size⟩, h.ft, h.low.trans hk (fun _ _ h => h) (fun k hk2 e => hB k (by omega) e)⟩
  obtain ⟨h1, o, h2, h3⟩ := hr k e
  rcases hf with hf | hf | hf
  · have := h.ft k hf; omega
  · omega
  · obtain ⟨cs, hc⟩ := own_cells e2.own hf.symm
    rw [hc] at h2; cases h2; cases h3
theorem OI.own (base : Nat) (w : World) (F : Fp) (st : St) (js : JSt) (jx eb jb fb B : Nat) : OwnFrom B (OI base w F st js jx eb jb fb B) := fun _ _ _ _ hs hg hr => hs.grown hg hr
theorem OI.fm (h : OI base w F st js jx eb jb fb B pre W) : FM base F st js w.heap.size jb fb eb pre W := by
  obtain ⟨J, e1, e2, e3⟩ := h.j
  obtain ⟨n1, n2, n3, n4, n5, n6⟩ := h.n
  exact ⟨⟨J, e1, e2⟩, h.c1, h.c2, h.c3, h.f3, by omega, by omega, by omega⟩
theorem OI.good (l D : Nat) (rl rd : Obj) (hl : B ≤ l) (hD : B ≤ D) (h1 : rl.isCells = false) (h2 : rd.isCells = false) : FGood base F st js w.heap.size jb fb eb (fun pre W => OI base w F st js jx eb jb fb B pre W ∧ W.heap[l]? = some rl ∧ W.heap[D]? = some rd) where
  fm := fun pre W h => h.1.fm
  below := fun pre W W' h hb => ⟨h.1.below hb, (hb.block l (Array.getElem?_eq_some_iff.1 h.2.1).1).trans h.2.1, (hb.block D (Array.getElem?_eq_some_iff.1 h.2.2).1).trans h.2.2⟩
  set := fun pre W v h => ⟨h.1.set v, by
    obtain ⟨n1, n2, n3, n4, n5, n6⟩ := h.1.n
    exact ⟨(Below.heap_setCell W ⟨eb, 0, none⟩ v l (by show l ≠ eb; omega)).trans h.2.1, (Below.heap_setCell W ⟨eb, 0, none⟩ v D (by show D ≠ eb; omega)).trans h.2.2⟩⟩
/-- The body of a round: a record more. -/
theorem OI.grow {J : JF} {w2 : World} {v2 : Value} {x : ByteArray} (h : OI base w F st js jx eb jb fb B pre W) (hJb : J.b = w.heap.size) (hJ : JRaw base W F st J (jsOf js pre)) (hJ3 : ∀ k, J.lv.ownBlock = some k → B ≤ k)
    (hK : Kept (fun k => some k = J.lv.ownBlock) W w2) (hO : Lift.Own Rd.str (fun _ => True) w2 base 9 v2 (pre ++ [x])) (hw : v2.ownBlock = J.lv.ownBlock ∨ ∃ g, v2.ownBlock = some g ∧ W.heap.size ≤ g) (h2 : enOf js.en (pre ++ [x]) < js.lim) :
    KeepsFrom B W (((w2.setCell ⟨w.heap.size, 3, none⟩ v2).setCell ⟨w.heap.size, 4, none⟩ (.int .i64 (enOf js.en (pre ++ [x]) : Nat)))) ∧ OI base w F st js jx eb jb fb B (pre ++ [x]) ((w2.setCell ⟨w.heap.size, 3, none⟩ v2).setCell ⟨w.heap.size, 4, none⟩ (.int .i64 (enOf js.en (pre ++ [x]) : Nat))) := by
  obtain ⟨n1, n2, n3, n4, n5, n6⟩ := h.n
  have hlt : enOf js.en pre < enOf js.en (pre ++ [x]) := by rw [enOf_snoc]; unfold needN; omega
  obtain ⟨G1, _, _⟩ := hJ.grow (v2 := v2) (s := x) (nx := enOf js.en (pre ++ [x])) hK hO hw hlt h2
  rw [hJb] at G1
  have G2 : Kept (fun k => k = w.heap.size ∨ some k = J.lv.ownBlock) W ((w2.setCell ⟨w.heap.size, 3, none⟩ v2).setCell ⟨w.heap.size, 4, none⟩ (.int .i64 (enOf js.en (pre ++ [x]) : Nat))) := ((hK.wide (fun k _ e => .inr e)).set (.inl rfl)).set (.inl rfl)
  generalize ((w2.setCell ⟨w.heap.size, 3, none⟩ v2).setCell ⟨w.heap.size, 4, none⟩ (.int .i64 (enOf js.en (pre ++ [x]) : Nat))) = W' at *
  have hno : ∀ k, k < B → ¬ k = w.heap.size → ¬ (k = w.heap.size ∨ some k = J.lv.ownBlock) := fun k h1 h2 hf => by
    rcases hf with hf | hf
    · exact h2 hf
    · have := hJ3 k hf.symm; omega
  obtain ⟨v, hv⟩ := h.c3
  refine ⟨⟨G2.size, fun k o hk ho hc => ?_⟩, ⟨⟨⟨w.heap.size, v2⟩, rfl, G1, fun k hk => ?_⟩, (G2.cell (p := ⟨jx, 0, none⟩) (by show jx < _; omega) (hno jx (by omega) (by omega))).trans h.c0, (G2.cell (p := ⟨jb, 0, none⟩) (by show jb < _; omega) (hno jb (by omega) (by omega))).trans h.c1, (G2.cell (p := ⟨fb, 0, none⟩) (by show fb < _; omega) (hno fb (by omega) (by omega))).trans h.c2, ⟨v, (G2.cell (p := ⟨eb, 0, none⟩) (by show eb < _; omega) (hno eb (by omega) (by omega))).trans hv⟩, (G2.frozen (p := ⟨eb, 0, none⟩) (by show eb < _; omega) (hno eb (by omega) (by omega))).trans h.f3, ⟨n1, n2, n3, n4, n5, Nat.le_trans n6 G2.size⟩, h.ft, h.low.trans G2 (fun _ _ h => h) (fun k hk hf => hno k (by omega) (by omega) hf)⟩⟩
  · refine (G2.block k (Array.getElem?_eq_some_iff.1 ho).1 (fun hf => ?_)).trans ho
    rcases hf with hf | hf
    · omega
    · obtain ⟨cs, hcs⟩ := own_cells hJ.own hf.symm
      rw [hcs] at ho; cases ho; cases hc
  · rcases hw with e | ⟨g, e, hg⟩
    · exact hJ3 k (by rw [← e]; exact hk)
    · simp only at hk; rw [e] at hk; cases hk; omega
end
end Go.Proofs.YtdebfnlnpfienaaGreatDoor

/- Open's loop: its body, operation by operation. -/
namespace Go.Proofs.YtdebfnlnpfienaaGreatDoor
open Go.RowKit Go.Shelf Lift
set_option linter.unusedSimpArgs false
set_option linter.unusedVariables false

/-- What each operation of the append leaves in its slot. -/
def o6R (p : Nat) (lv : Value) (x : ByteArray) (g : Nat) : Nat → Value → Prop
  | 0, v => v = .pointer (some ⟨p, 0, none⟩)
  | 1, v => v = .pointer (some ⟨p, 0, none⟩)
  | 2, v => v = .pointer (some ⟨p, 0, none⟩)
  | 3, v => v = .pointer (some ⟨p, 3, none⟩)
  | 4, v => v = lv
  | 5, v => v = .string x
  | 6, v => v = .slice (some ⟨g, 0, none⟩) 1 1
  | 7, _ => True
  | 8, v => v = .pointer (some ⟨p, 0, none⟩)
  | 9, v => v = .pointer (some ⟨p, 3, none⟩)
  | _, _ => False
def o6P (base : Nat) (lv : Value) (m : List ByteArray) (Wd : World) (v : Value) (w : World) : Prop :=
  Lift.Own Rd.str (fun _ => True) w base 9 v m ∧ Kept (fun k => some k = lv.ownBlock) Wd w ∧ (v.ownBlock = lv.ownBlock ∨ ∃ g, v.ownBlock = some g ∧ Wd.heap.size < g)
def o6S (base : Nat) (lv : Value) (m : List ByteArray) (x : ByteArray) (Wd : World) (l : Array Bool) (v : Value) (w : World) : Prop :=
  if l.getD 7 false = true then o6P base lv m Wd v w else if l.getD 6 false = true then w = Wd.alloc (.cells #[.string x] 9) else w = Wd
section
variable {base : Nat} {lv : Value} {m : List ByteArray} {x : ByteArray} {Wd w : World} {l : Array Bool} {v : Value}
theorem o6S.keep (h : o6S base lv m x Wd l v w) : Kept (fun k => some k = lv.ownBlock) Wd w := by
  unfold o6S at h
  split at h
  · exact h.2.1
  · split at h
    · rw [h]; exact (Kept.refl _ _).new
    · rw [h]; exact Kept.refl _ _
theorem set_ne {l : Array Bool} {i j : Nat} (hi : i < l.size) (h : j ≠ i) : (l.setIfInBounds i true).getD j false = l.getD j false := by rw [set_at hi, if_neg h]
theorem set_eq {l : Array Bool} {i : Nat} (hi : i < l.size) : (l.setIfInBounds i true).getD i false = true := by rw [set_at hi, if_pos rfl]
theorem o6S.same (h : o6S base lv m x Wd l v w) {i : Nat} (hs : l.size = 11) (hi : i < 11) (h6 : i ≠ 6) (h7 : i ≠ 7) : o6S base lv m x Wd (l.setIfInBounds i true) v w := by
  unfold o6S at *
  rw [set_ne (by omega) (Ne.symm h7), set_ne (by omega) (Ne.symm h6)]
  exact h
theorem o6S.made (h : o6S base lv m x Wd l v w) (hs : l.size = 11) (h7 : l.getD 7 false = true → l.getD 6 false = true) (h6 : l.getD 6 false = false) : w = Wd ∧ o6S base lv m x Wd (l.setIfInBounds 6 true) v (w.alloc (.cells #[.string x] 9)) := by
  have h7' : ¬ l.getD 7 false = true := fun e => by rw [h7 e] at h6; cases h6
  unfold o6S at *
  rw [if_neg h7', if_neg (by rw [h6]; decide)] at h
  rw [set_ne (by omega) (by decide), set_eq (by omega), if_neg h7', if_pos rfl, h]
  exact ⟨rfl, rfl⟩
theorem o6S.push (h : o6S base lv m x Wd l v w) (hs : l.size = 11) (h7 : l.getD 7 false = false) (h6 : l.getD 6 false = true) : w = Wd.alloc (.cells #[.string x] 9) ∧ ∀ v' w', o6P base lv m Wd v' w' → o6S base lv m x Wd (l.setIfInBounds 7 true) v' w' := by
  unfold o6S at *
  rw [if_neg (by rw [h7]; decide), if_pos h6] at h
  refine ⟨h, fun v' w' hp => ?_⟩
  rw [set_eq (by omega), if_pos rfl]
  exact hp
end
theorem lt10 {i : Nat} (h : i < 10) : i = 0 ∨ i = 1 ∨ i = 2 ∨ i = 3 ∨ i = 4 ∨ i = 5 ∨ i = 6 ∨ i = 7 ∨ i = 8 ∨ i = 9 := by omega
/-- .. and of the end's. -/
def o7R (p : Nat) (en : Nat) (x : ByteArray) : Nat → Value → Prop
  | 0, v => v = .pointer (some ⟨p, 0, none⟩)
  | 1, v => v = .pointer (some ⟨p, 0, none⟩)
  | 2, v => v = .pointer (some ⟨p, 4, none⟩)
  | 3, v => v = .int .i64 en
  | 4, v => v = .string x
  | 5, v => v = .int .i64 x.size
  | 6, v => v = .int .i64 (needN x.size)
  | 7, v => v = .int .i64 ((en + needN x.size : Nat) : Int)
  | 8, v => v = .pointer (some ⟨p, 0, none⟩)
  | 9, v => v = .pointer (some ⟨p, 4, none⟩)
  | _, _ => False
/-- Behind the loop: a journal of a plate in some state, the boxes, the block of what is deferred. -/
structure OX (base : Nat) (w : World) (F : Fp) (st' : St) (js : JSt) (jx eb D : Nat) (F' : Fp) (J : JF) (W : World) : Prop where
  j : JRaw base W F' st' J js
  fb : F'.b = F.b
  jb : J.b = w.heap.size
  ft : ∀ k, jfoot F' J k → (foot F k ∨ w.heap.size ≤ k) ∧ k ≠ jx ∧ k ≠ eb ∧ k ≠ D
  c0 : W.cell? ⟨jx, 0, none⟩ = some (.pointer (some ⟨w.heap.size, 0, none⟩))
  c3 : ∃ v, W.cell? ⟨eb, 0, none⟩ = some v
  f3 : W.frozen? ⟨eb, 0, none⟩ = false
  d : W.heap[D]? = some (.deferred (some []))
  n : w.heap.size < jx ∧ jx < eb ∧ eb < D
  ftw : ∀ k, foot F k → k < w.heap.size
  low : Kept (foot F) w W
section
variable {base : Nat} {w : World} {F F' : Fp} {st st' : St} {js : JSt} {jx eb jb fb B D : Nat} {J : JF} {pre : List ByteArray} {W W' : World}
theorem OI.ox (h : OI base w F st js jx eb jb fb B pre W) (hD : B ≤ D) (hd : W.heap[D]? = some (.deferred (some []))) : ∃ J, OX base w F st (jsOf js pre) jx eb D F J W := by
  obtain ⟨J, e1, e2, e3⟩ := h.j
  obtain ⟨n1, n2, n3, n4, n5, n6⟩ := h.n
  refine ⟨J, e2, rfl, e1, fun k hk => ?_, h.c0, h.c3, h.f3, hd, by omega, h.ft, h.low.wide (fun _ _ h => h.elim)⟩
  rcases hk with hk | hk | hk
  · have := h.ft k hk; exact ⟨.inl hk, by omega, by omega, by omega⟩
  · exact ⟨.inr (by omega), by omega, by omega, by omega⟩
  · have := e3 k hk.symm
    refine ⟨.inr (by omega), by omega, by omega, fun e => ?_⟩
    obtain ⟨cs, hc⟩ := own_cells e2.own hk.symm
    rw [e, hd] at hc; cases hc
theorem OX.dlt (h : OX base w F st' js jx eb D F' J W) : D < W.heap.size := (Array.getElem?_eq_some_iff.1 h.d).1
theorem OX.set (h : OX base w F st' js jx eb D F' J W) (v : Value) : OX base w F st' js jx eb D F' J (W.setCell ⟨eb, 0, none⟩ v) := by
  obtain ⟨n1, n2, n3⟩ := h.n
  have hdl := h.dlt
  have hk := Kept.setCell (X := fun k => k = eb) W (p := ⟨eb, 0, none⟩) rfl v
  obtain ⟨u, hu⟩ := h.c3
  exact ⟨h.j.kept hk (fun k hf => (h.ft k hf).2.2.1), h.fb, h.jb, h.ft, (hk.cell (p := ⟨jx, 0, none⟩) (by show jx < _; omega) (by show ¬ jx = eb; omega)).trans h.c0, ⟨v, World.cell?_setCell_same _ _ _ hu⟩, by rw [World.frozen?_setCell]; exact h.f3, (Below.heap_setCell W ⟨eb, 0, none⟩ v D (by show D ≠ eb; omega)).trans h.d, h.n, h.ftw, h.low.trans hk (fun _ _ h => h) (fun k hk2 e => by omega)⟩
theorem OX.below (h : OX base w F st' js jx eb D F' J W) (hb : Below W.heap.size W W') : OX base w F st' js jx eb D F' J W' := by
  obtain ⟨n1, n2, n3⟩ := h.n
  have hdl := h.dlt
  obtain ⟨u, hu⟩ := h.c3
  exact ⟨h.j.below hb, h.fb, h.jb, h.ft, (hb.cell (p := ⟨jx, 0, none⟩) (by show jx < _; omega)).trans h.c0, ⟨u, (hb.cell (p := ⟨eb, 0, none⟩) (by show eb < _; omega)).trans hu⟩, (hb.frozen (p := ⟨eb, 0, none⟩) (by show eb < _; omega)).trans h.f3, (hb.block D hdl).trans h.d, h.n, h.ftw, h.low.step hb⟩
theorem OX.plate {st2 : St} (h : OX base w F st' js jx eb D F' J W) (hp : PlS base F' st2 W W') (hl : st2.no.length = st'.no.length) : ∃ F2, OX base w F st2 js jx eb D F2 J W' := by
  obtain ⟨n1, n2, n3⟩ := h.n
  have hdl := h.dlt
  obtain ⟨u, hu⟩ := h.c3
  obtain ⟨F2, p1, p2, p3, p4⟩ := hp
  refine ⟨F2, h.j.plate p1 p2 p3 p4 hl, p2.trans h.fb, h.jb, fun k hk => ?_, (p4.cell (p := ⟨jx, 0, none⟩) (by show jx < _; omega) (fun hf => (h.ft _ (.inl hf)).2.1 rfl)).trans h.c0, ⟨u, (p4.cell (p := ⟨eb, 0, none⟩) (by show eb < _; omega) (fun hf => (h.ft _ (.inl hf)).2.2.1 rfl)).trans hu⟩, (p4.frozen (p := ⟨eb, 0, none⟩) (by show eb < _; omega) (fun hf => (h.ft _ (.inl hf)).2.2.1 rfl)).trans h.f3, (p4.block D hdl (fun hf => (h.ft _ (.inl hf)).2.2.2 rfl)).trans h.d, h.n, h.ftw, h.low.trans p4 (fun _ _ h => h) (fun k hk hf => ?_)⟩
  · rcases hk with hk | hk | hk
    · rcases p3 k hk with hk | hk
      · exact h.ft k (.inl hk)
      · exact ⟨.inr (by omega), by omega, by omega, by omega⟩
    · exact h.ft k (.inr (.inl hk))
    · exact h.ft k (.inr (.inr hk))
  · rcases (h.ft k (.inl hf)).1 with h | h
    · exact h
    · omega
theorem OX.put (h : OX base w F st' js jx eb D F' J W) : JRaw base (W.putObj D (.deferred none)) F' st' J js ∧ Kept (foot F) w (W.putObj D (.deferred none)) := by
  obtain ⟨n1, n2, n3⟩ := h.n
  have hg := grownBy_putObj' W D (.deferred none)
  have hk : Kept (fun k => k = D) W (W.putObj D (.deferred none)) := ⟨hg.os, hg.tape, hg.output, hg.size, fun k h1 h2 => hg.block k h1 (fun e => h2 (Option.some.inj e))⟩
  exact ⟨h.j.kept hk (fun k hf => (h.ft k hf).2.2.2), h.low.trans hk (fun _ _ h => h) (fun k hk2 e => by omega)⟩
theorem OX.fin (h : OX base w F st' js jx eb D F' J W) {er : Int} (h0 : er = 0) : MadePost base F st' er js w (.returned (.tuple #[.pointer (some ⟨w.heap.size, 0, none⟩), .int .i64 0])) (W.putObj D (.deferred none)) := by
  obtain ⟨h1, h2⟩ := h.put
  unfold MadePost
  rw [if_pos h0]
  exact ⟨F', J, by rw [h.jb], h1, h.fb, fun k hk => (h.ft k hk).1, h2⟩
theorem OX.fail (h : OX base w F st' js jx eb D F' J W) {er : Int} (h0 : er ≠ 0) : MadePost base F st' er js w (.returned (.tuple #[.pointer none, .int .i64 er])) (W.putObj D (.deferred none)) := by
  obtain ⟨h1, h2⟩ := h.put
  unfold MadePost
  rw [if_neg h0]
  exact ⟨rfl, F', h1.raw, h.fb, fun k hk => (h.ft k (.inl hk)).1, h2⟩
theorem MadePost.er {js2 : JSt} {er : Int} {e : Ending} (h : MadePost base F st' er js w e W) (h0 : er ≠ 0) : MadePost base F st' er js2 w e W := by
  unfold MadePost at *
  rwa [if_neg h0] at h ⊢
end
theorem of_step {P : Program} {o : Oper} {a : Act} {w : World} {K : Act → World → Prop} {Q : Exit → Act → World → Prop} (hg : o.guard = none) (h : if Region.wanted o (yielded #[] a.tmps) = true then Oper.wp P o a w K Q else True) : Oper.wp P o a w K Q := by
  rwa [if_pos (by simp [Region.wanted, hg])] at h
end Go.Proofs.YtdebfnlnpfienaaGreatDoor

/- Open: the program's. -/
namespace Go.Proofs.YtdebfnlnpfienaaGreatDoor
open Go.RowKit Go.Shelf Lift
set_option linter.unusedSimpArgs false
set_option linter.unusedVariables false
attribute [local go_sem] Oper.semAt_some

theorem found0_in (n : Nat) (p q : Addr) (w : World) :
    CallsIn Fence.wide n Tryz.prog 66 #[.pointer (some p), .pointer (some q)] w fun e w' => e = .returned (.func (.func 94) #[] #[.pointer (some ⟨w.heap.size, 0, none⟩), .pointer (some ⟨w.heap.size + 1, 0, none⟩)]) ∧ w' = (w.alloc (.cells #[.pointer (some p)] 60)).alloc (.cells #[.pointer (some q)] 116) := by
  refine callsIn_of_wp Tryz.func66 rfl trivial ?_ rfl
  simp only [Tryz.ntmps66, List.size_toArray, List.length_cons, List.length_nil, Nat.reduceAdd, Nat.reduceSub, Array.replicate_succ, Array.replicate_zero, List.push_toArray, List.append_toArray, List.nil_append, List.cons_append]
  gi_wp2
  go_ret
  exact ⟨rfl, rfl⟩
set_option maxRecDepth 100000 in
set_option maxHeartbeats 4000000 in
theorem open_in {base : Nat} {w : World} {F : Fp} {st : St} (n : Nat) (hn : 5 ≤ n) (h : Raw base w F st) (a sz gen : Nat) (h1 : 2 ≤ sz) (h2 : a + sz ≤ st.no.length) (hg : gen < 4294967296) (hb : base ≤ w.heap.size) (hlo : st.lo.length ≤ 1000000) :
    CallsIn Fence.wide n Tryz.prog 39 #[.pointer (some ⟨F.b, 0, none⟩), .int .i64 a, .int .i64 sz, .int .u32 gen] w (MadePost base F (openR st (JSt.new a sz gen)).1 (openR st (JSt.new a sz gen)).2 (openJ st (JSt.new a sz gen)) w) := by
  have HP := Lib.hid (callsIn_wide (n := n - 1).2 (place_ok h a sz gen h1 h2 hg hb))
  have H := Lib.hid h
  have hn2 := h.n2
  have hft := h.inb
  clear h
  have hf41 : Fence.wide.fn 44 := trivial
  have hf42 : Fence.wide.fn 66 := trivial
  have hf43 : Fence.wide.fn 63 := trivial
  have hf44 : Fence.wide.fn 65 := trivial
  have hf45 : Fence.wide.fn 45 := trivial
  have h1n : 1 ≤ n := by omega
  refine callsIn_of_wp_marks Tryz.func39 rfl trivial ?_ rfl
  simp only [Tryz.ntmps39, List.size_toArray, List.length_cons, List.length_nil, Nat.reduceAdd, Nat.reduceSub, Array.replicate_succ, Array.replicate_zero, List.push_toArray, List.append_toArray, List.nil_append, List.cons_append]
  gi_wp2_with fail
  refine HP.out.mono ?_
  rintro e w1 ⟨rfl, hJ, hb1⟩
  have hJlt := hJ.lt
  have HJ := Lib.hid hJ
  clear hJ HP
  gi_wp2_with (gi_at_call 66; refine (found0_in (n - 1) _ _ _).mono ?_; rintro e w2 ⟨rfl, rfl⟩)
  obtain ⟨W0, hW0⟩ : ∃ W0, ((((w1.alloc (.cells #[.pointer (some ⟨w.heap.size, 0, none⟩)] 60)).alloc (.cells #[.int .i64 0] 25)).alloc (.cells #[.pointer (some ⟨w.heap.size, 0, none⟩)] 60)).alloc (.cells #[.pointer (some ⟨w1.heap.size + 1, 0, none⟩)] 116)) = W0 := ⟨_, rfl⟩
  have hsz : W0.heap.size = w1.heap.size + 4 := by subst hW0; simp
  have hB0 : Below w1.heap.size w1 W0 := by subst hW0; exact ((((Below.refl _ w1).alloc (Nat.le_refl _) _).alloc (by simp) _).alloc (by simp; omega) _).alloc (by simp; omega) _
  have hI0 : OI base w F st (JSt.new a sz gen) w1.heap.size (w1.heap.size + 1) (w1.heap.size + 1 + 1) (w1.heap.size + 1 + 1 + 1) W0.heap.size [] W0 :=
    ⟨⟨_, rfl, by rw [jsOf_new]; exact HJ.out.below hB0, fun k e => by cases e⟩, by subst hW0; simp [go_sem], by subst hW0; simp [go_sem], by subst hW0; simp [go_sem], ⟨.int .i64 0, by subst hW0; simp [go_sem]⟩, by subst hW0; simp [go_sem], by omega, hft, (Kept.of_below hb1 _).step hB0⟩
  rw [hW0]
  have HI0 := Lib.hid hI0
  clear hW0 hI0
  refine range_good (F := Fence.wide) rfl h1n (gf := 94) (lb := #[.pointer (some ⟨w1.heap.size + 1 + 1, 0, none⟩), .pointer (some ⟨w1.heap.size + 1 + 1 + 1, 0, none⟩)]) rfl trivial (enters_of Tryz.func94 (by kernel_rfl) rfl) (encs := fun x => #[.string x]) (fun _ => rfl)
    (FGood base F st (JSt.new a sz gen) w.heap.size (w1.heap.size + 1 + 1) (w1.heap.size + 1 + 1 + 1) (w1.heap.size + 1)) (FOk st (JSt.new a sz gen)) (FEnd st (JSt.new a sz gen) (w1.heap.size + 1)) ?hS
    (fun l J W hg hY h0 => found_in (n - 1) (by omega) l J hg hY W h0) (OI base w F st (JSt.new a sz gen) w1.heap.size (w1.heap.size + 1) (w1.heap.size + 1 + 1) (w1.heap.size + 1 + 1 + 1) W0.heap.size) (OI.own _ _ _ _ _ _ _ _ _ _) HI0.out
    (fun l D rl rd hl hD h1 h2 => OI.good l D rl rd hl hD h1 h2)
    (fun x a' _ => a'.tmps.size = 77 ∧ a'.tmps.getD 10 undef = .pointer (some ⟨w1.heap.size, 0, none⟩) ∧ a'.tmps.getD 12 undef = .string x ∧ a'.defers = []) (fun x a' => ownFrom_pure _ _) ?assign ?body ?done
  case hS =>
    exact Own.from (fun s A B row hs hg hr => ⟨cell_kept hs.1 hg hr, hs.2.1, hs.2.2⟩) _
  case assign =>
    intro lp pre x W K hI hok hK
    gi_wp2
    exact hK _ _ (KeepsFrom.refl _ _) hI ⟨rfl, rfl, rfl, rfl⟩
  case body =>
    rintro lp pre x a' W hlp hI hok ⟨ht, h10, h12, hdf⟩
    obtain ⟨J, e1, e2, e3⟩ := hI.j
    obtain ⟨ao, cap, elv⟩ := e2.form
    obtain ⟨hoff, hnx⟩ := hok
    obtain ⟨q1, q2, _, _, _⟩ := nextRec_some H.out.n64 h2 hnx
    rename_i q3 q4 q5
    clear q3 q4 q5 hnx
    have hI' := Lib.hid (hI.below (Below.refl W.heap.size W).drew)
    have eJ := Lib.hid (e2.below (Below.refl W.heap.size W).drew)
    obtain ⟨n1, n2, n3, n4, n5, n6⟩ := hI.n
    have hen := e2.en
    have hjl : J.b < W.heap.size := e2.lt
    have hnx1 : ¬ some w1.heap.size = J.lv.ownBlock := fun e => by have := e3 _ e.symm; omega
    have hnx2 : ¬ some w.heap.size = J.lv.ownBlock := fun e => by have := e3 _ e.symm; omega
    obtain ⟨c0, c1, c2, c3, c4, c5⟩ := eJ.out.cells
    rw [e1] at c3 c4
    have HC := Lib.hid (fun (wx : World) (hK : Kept (fun k => some k = J.lv.ownBlock) W.drew wx) => show wx.cell? ⟨w1.heap.size, 0, none⟩ = some (.pointer (some ⟨w.heap.size, 0, none⟩)) ∧ wx.cell? ⟨w.heap.size, 3, none⟩ = some J.lv ∧ wx.cell? ⟨w.heap.size, 4, none⟩ = some (.int .i64 (enOf a pre : Nat)) ∧ wx.frozen? ⟨w.heap.size, 3, none⟩ = false ∧ wx.frozen? ⟨w.heap.size, 4, none⟩ = false from by
      have hw1 : w1.heap.size < W.drew.heap.size := by show _ < W.heap.size; omega
      have hw0 : w.heap.size < W.drew.heap.size := by show _ < W.heap.size; omega
      exact ⟨(hK.cell (p := ⟨w1.heap.size, 0, none⟩) hw1 hnx1).trans hI'.out.c0, (hK.cell (p := ⟨w.heap.size, 3, none⟩) hw0 hnx2).trans c3, (hK.cell (p := ⟨w.heap.size, 4, none⟩) hw0 hnx2).trans c4, (hK.frozen (p := ⟨w.heap.size, 3, none⟩) hw0 hnx2).trans (by rw [← e1]; exact eJ.out.free 3), (hK.frozen (p := ⟨w.heap.size, 4, none⟩) hw0 hnx2).trans (by rw [← e1]; exact eJ.out.free 4)⟩)
    obtain ⟨i0, hi', hz0, hz1, hz2⟩ := str_info0
    have hpl : pre.length ≤ 8192 := by have := e2.bd.2.2; show (jsOf (JSt.new a sz gen) pre).recs.length ≤ 8192; omega
    have hbase := eJ.out.raw.base_le
    gi_wp2
    refine wpIn_region_last (by kernel_rfl) 10 rfl 7 (o6S base J.lv (pre ++ [x]) x W.drew) (o6R w.heap.size J.lv x W.drew.heap.size) (fun i => 28 + i) ?hd ?inj (by decide) ?hord ?hup ?hlast ?hS0 ?hop ?hfin
    case hd =>
      intro i o hi ho
      rcases lt10 hi with rfl | rfl | rfl | rfl | rfl | rfl | rfl | rfl | rfl | rfl
      all_goals (cases ho; exact ⟨rfl, rfl, by omega, fun c h => by cases h⟩)
    case inj => intro i j hi hj h; have h : 28 + i = 28 + j := h; omega
    case hord =>
      intro i o ho e he
      have hi : i < 11 := (Array.getElem?_eq_some_iff.1 ho).1
      rcases (by omega : i < 10 ∨ i = 10) with hi | rfl
      · rcases lt10 hi with rfl | rfl | rfl | rfl | rfl | rfl | rfl | rfl | rfl | rfl
        all_goals (cases ho; exact all_before (by kernel_rfl) e he)
      · cases ho; exact all_before (by kernel_rfl) e he
    case hup => exact ups_of (by kernel_rfl)
    case hlast => intro o ho; cases ho; exact ⟨rfl, fun c h => by cases h⟩
    case hS0 => unfold o6S; rw [if_neg (by simp), if_neg (by simp)]
    case hop =>
      intro i o hi ho l aa wx hs hS hr hli hcl he K hK
      obtain ⟨k0, k3, k4, _, _⟩ := HC.out _ hS.keep
      have g10 : aa.tmps[10]?.getD undef = .pointer (some ⟨w1.heap.size, 0, none⟩) := by have := (hr 10 (by intro j hj; show 28 + j ≠ 10; omega)).trans h10; simpa using this
      have g12 : aa.tmps[12]?.getD undef = .string x := by have := (hr 12 (by intro j hj; show 28 + j ≠ 12; omega)).trans h12; simpa using this
      have h76 : l.getD 7 false = true → l.getD 6 false = true := fun e => hcl 7 _ (by decide) rfl e ⟨6, .data⟩ (by simp) rfl
      clear hr hcl
      rcases lt10 hi with rfl | rfl | rfl | rfl | rfl | rfl | rfl | rfl | rfl | rfl
      all_goals (simp only [List.getElem?_toArray, List.getElem?_cons_succ, List.getElem?_cons_zero, Option.some.injEq] at ho; subst ho; simp [o6R, Region.binds] at he)
      all_goals (try (simp [go_sem, Oper.wp, execOp, Act.eval, he, g10, g12, k0, k3]; done))
      all_goals (try (simp [go_sem, Oper.wp, execOp, Act.eval, he, g10, g12, k0, k3]; exact hK _ _ (by rw [if_neg (by decide)]; exact hS.same hs (by decide) (by decide) (by decide)) rfl))
      · obtain ⟨rfl, hS2⟩ := hS.made hs h76 hli
        simp [go_sem, Oper.wp, execOp, Act.eval, he]
        exact hK _ _ (by rw [if_neg (by decide)]; exact hS2) rfl
      · obtain ⟨rfl, hS2⟩ := hS.push hs hli (by simpa using he.2.1)
        have hO4 : Lift.Own Rd.str (fun _ => True) W.drew base 9 J.lv pre := eJ.out.own
        have hax : aa.eval (.tmp 34) = .slice (some ⟨W.drew.heap.size, 0, none⟩) 1 1 := by simpa [Act.eval] using he.2.2
        have has : aa.eval (.tmp 32) = J.lv := by simpa [Act.eval] using he.1.2
        refine of_step rfl ?_
        refine step_push Rd.str rfl (.tmp 32) (.tmp 34) 91 rfl base 9 i0 _ 16 Tryz.underlying91 hi' hz0 hz1 hz2 rfl (by decide) (fun _ => True) _ pre has hO4 [.string x] x _ hax rfl ⟨rfl, by unfold maxTx; omega⟩ (by simp [Value.oneCell']) (by unfold maxLen; omega) (by omega) hbase ?_
        intro v2 w2 hO2 hK2 hw2
        exact hK _ _ (by rw [if_pos rfl]; exact hS2 v2 w2 ⟨hO2, hK2, hw2⟩) trivial
    case hfin =>
      intro o l aa wx ho hS hall hdf2 ht2 hr hR
      obtain ⟨k0, k3, k4, kf3, kf4⟩ := HC.out _ hS.keep
      have hS2 : o6P base J.lv (pre ++ [x]) W.drew (aa.tmps.getD (28 + 7) undef) wx := by unfold o6S at hS; rwa [if_pos (hall 7 (by decide))] at hS
      obtain ⟨hO2, hK2, hw2⟩ := hS2
      have hr9 : aa.tmps[37]?.getD undef = .pointer (some ⟨w.heap.size, 3, none⟩) := by have := hR 9 (by decide); simpa [o6R] using this
      have g10 : aa.tmps.getD 10 undef = .pointer (some ⟨w1.heap.size, 0, none⟩) := (hr 10 (by intro j hj; show 28 + j ≠ 10; omega)).trans h10
      have g12 : aa.tmps.getD 12 undef = .string x := (hr 12 (by intro j hj; show 28 + j ≠ 12; omega)).trans h12
      obtain ⟨v2, hv2⟩ : ∃ v2, aa.tmps.getD (28 + 7) undef = v2 := ⟨_, rfl⟩
      rw [hv2] at hO2 hw2
      have hv2' : aa.tmps[35]?.getD undef = v2 := by simpa using hv2
      obtain ⟨ao2, cap2, e2v⟩ := hO2.form
      have ht3 : aa.tmps.size = 77 := ht2.trans ht
      have hJb : w.heap.size < wx.heap.size := by have := hK2.size; have : W.drew.heap.size = W.heap.size := rfl; omega
      have hen2 : enOf a (pre ++ [x]) < a + sz := by rw [enOf_snoc]; have : enOf (JSt.new a sz gen).en pre = enOf a pre := rfl; omega
      have HG := Lib.hid (hI'.out.grow e1 eJ.out e3 hK2 hO2 (hw2.imp id (fun ⟨g, h1, h2⟩ => ⟨g, h1, Nat.le_of_lt h2⟩)) hen2)
      clear hS hall hr hR hv2 k0 k3 k4 kf3 kf4
      obtain ⟨k0, k3, k4, kf3, kf4⟩ := HC.out _ hK2
      simp only [List.getElem?_toArray, List.getElem?_cons_succ, List.getElem?_cons_zero, Option.some.injEq] at ho
      subst ho
      rw [e2v] at hv2'
      simp [go_sem, Oper.wp, execOp, Act.eval, hr9, hv2', k3, kf3]
      rw [show Value.slice ao2 (pre.length + 1) cap2 = v2 by rw [e2v]; simp]
      obtain ⟨W7, hW7⟩ : ∃ W7, wx.setCell ⟨w.heap.size, 3, none⟩ v2 = W7 := ⟨_, rfl⟩
      have hK7 : Kept (fun k => k = w.heap.size) wx W7 := by rw [← hW7]; exact Kept.setCell (X := fun k => k = w.heap.size) wx (p := ⟨w.heap.size, 3, none⟩) rfl v2
      have m0 : W7.cell? ⟨w1.heap.size, 0, none⟩ = some (.pointer (some ⟨w.heap.size, 0, none⟩)) := (hK7.cell (p := ⟨w1.heap.size, 0, none⟩) (by have := hK2.size; have : W.drew.heap.size = W.heap.size := rfl; show w1.heap.size < _; omega) (by show ¬ w1.heap.size = w.heap.size; omega)).trans k0
      have m4 : W7.cell? ⟨w.heap.size, 4, none⟩ = some (.int .i64 (enOf a pre : Nat)) := by rw [← hW7, World.cell?_setCell_other _ _ _ _ (by simp)]; exact k4
      have mf4 : W7.frozen? ⟨w.heap.size, 4, none⟩ = false := by rw [← hW7, World.frozen?_setCell]; exact kf4
      have HN := Lib.hid (show ∀ wz, Calls Tryz.prog 33 #[.int .i64 x.size] wz (fun e w' => e = .returned (.int .i64 (needN x.size)) ∧ w' = wz) from fun wz => by
        rw [← needI_nat q1]
        exact (need_any x.size (Wf.of (by omega) (by omega)) wz).mono fun _ _ ⟨a, b⟩ => ⟨a, b.symm⟩)
      have hadd : IntKind.i64.wrap ((enOf a pre : Nat) + (needN x.size : Nat) : Int) = ((enOf a pre + needN x.size : Nat) : Int) := by rw [IntKind.wrap_i64]; have : enOf (JSt.new a sz gen).en pre = enOf a pre := rfl; omega
      have hxs : x.size ≤ 9223372036854775807 := by omega
      rw [hW7]
      have HW7 := Lib.hid hW7
      clear hW7 hK2 hO2 hw2 hv2' hr9 k0 k3 k4 kf3 kf4 HC c0 c1 c2 c3 c4 c5
      gi_wp2
      refine wpIn_region_last (by kernel_rfl) 10 rfl 7 (fun _ _ wz => wz = W7.drew) (o7R w.heap.size (enOf a pre) x) (fun i => 38 + i) ?hd ?inj (by decide) ?hord ?hup ?hlast ?hS0 ?hop ?hfin
      case hd =>
        intro i o hi ho
        rcases lt10 hi with rfl | rfl | rfl | rfl | rfl | rfl | rfl | rfl | rfl | rfl
        all_goals (cases ho; exact ⟨rfl, rfl, by omega, fun c h => by cases h⟩)
      case inj => intro i j hi hj h; have h : 38 + i = 38 + j := h; omega
      case hord =>
        intro i o ho e he
        have hi : i < 11 := (Array.getElem?_eq_some_iff.1 ho).1
        rcases (by omega : i < 10 ∨ i = 10) with hi | rfl
        · rcases lt10 hi with rfl | rfl | rfl | rfl | rfl | rfl | rfl | rfl | rfl | rfl
          all_goals (cases ho; exact all_before (by kernel_rfl) e he)
        · cases ho; exact all_before (by kernel_rfl) e he
      case hup => exact ups_of (by kernel_rfl)
      case hlast => intro o ho; cases ho; exact ⟨rfl, fun c h => by cases h⟩
      case hS0 => rfl
      case hop =>
        intro i o hi ho l ab wz hs hS hr hli hcl he K hK
        subst hS
        have g10' : ab.tmps[10]?.getD undef = .pointer (some ⟨w1.heap.size, 0, none⟩) := by have := (hr 10 (by intro j hj; show 38 + j ≠ 10; omega)).trans g10; simpa using this
        have g12' : ab.tmps[12]?.getD undef = .string x := by have := (hr 12 (by intro j hj; show 38 + j ≠ 12; omega)).trans g12; simpa using this
        clear hr hcl
        rcases lt10 hi with rfl | rfl | rfl | rfl | rfl | rfl | rfl | rfl | rfl | rfl
        all_goals (simp only [List.getElem?_toArray, List.getElem?_cons_succ, List.getElem?_cons_zero, Option.some.injEq] at ho; subst ho; simp [o7R, Region.binds] at he)
        all_goals (try (simp [go_sem, Oper.wp, execOp, Act.eval, he, g10', g12', m0, m4, hadd, hxs]; exact hK _ _ rfl rfl))
        simp [go_sem, Oper.wp, execOp, Act.eval, he]
        refine (HN.out _).mono ?_
        rintro e w' ⟨rfl, rfl⟩
        exact hK _ _ rfl rfl
      case hfin =>
        intro o l ab wz ho hS hall hdf3 ht4 hr hR
        subst hS
        have hr9 : ab.tmps[47]?.getD undef = .pointer (some ⟨w.heap.size, 4, none⟩) := by have := hR 9 (by decide); simpa [o7R] using this
        have hr7 : ab.tmps[45]?.getD undef = .int .i64 ((enOf a pre + needN x.size : Nat) : Int) := by have := hR 7 (by decide); simpa [o7R] using this
        simp only [List.getElem?_toArray, List.getElem?_cons_succ, List.getElem?_cons_zero, Option.some.injEq] at ho
        subst ho
        clear hr hR hall
        simp [go_sem, Oper.wp, execOp, Act.eval, hr9, hr7, m4, mf4]
        clear m0 m4 mf4 hr9 hr7 HN hadd
        gi_wp2
        obtain ⟨G1, G2⟩ := HG.out
        rw [HW7.out] at G1 G2
        have hcast : ((enOf a pre : Nat) : Int) + ((needN x.size : Nat) : Int) = ((enOf (JSt.new a sz gen).en (pre ++ [x]) : Nat) : Int) := by rw [enOf_snoc]; rfl
        rw [hcast]
        rw [← hsz]
        exact ⟨(((KeepsOthers.drew W).from _).trans G1).trans ((KeepsOthers.drew _).from _), G2.below (Below.refl _ _).drew⟩
  case done =>
    rintro D xs W hD hE hI hdf
    obtain ⟨hE1, hE2, hE3⟩ := hE
    obtain ⟨J, hX⟩ := hI.ox hD hdf
    clear hI
    cases ho : st.off with
    | true =>
      rw [ho] at hE1
      simp only [↓reduceIte] at hE1
      have eR : openR st (JSt.new a sz gen) = (st, 12) := by unfold openR; rw [ho]; rfl
      clear hE2 hE3
      gi_wp2
      gi_region
      gi_wp2
      have hX2 := hX.below (Below.refl W.heap.size W).drew
      refine ⟨by simp, .inl ⟨_, _, rfl, run_takeDeferred hX2.d, ?_⟩⟩
      refine ⟨.tuple #[.pointer none, .int .i64 12], ?_, ?_⟩
      · simp [results, Tryz.f15, go_sem]
      · rw [eR]
        exact MadePost.er (hX2.fail (er := 12) (by decide)) (show (12 : Int) ≠ 0 by decide)
    | false =>
      rw [ho] at hE1
      simp only [Bool.false_eq_true, ↓reduceIte] at hE1
      obtain ⟨hE4, hE5⟩ := hE3 ho
      have eL : openL st (JSt.new a sz gen) = (xs, enOf a xs) := hE5
      have eJ : openJ st (JSt.new a sz gen) = jsOf (JSt.new a sz gen) xs := by unfold openJ; rw [eL]; rfl
      have hen : enOf a xs < st.no.length := by have := hX.j.en; have : (jsOf (JSt.new a sz gen) xs).en = enOf a xs := rfl; have : (jsOf (JSt.new a sz gen) xs).lim = a + sz := rfl; omega
      have hth : thereE st ((enOf a xs : Nat) : Int) = 0 := by unfold thereE; rw [ho, if_neg (by simp), if_neg (by omega)]
      obtain ⟨d, hd⟩ := some_at hen
      have hgv : getV st ((enOf a xs : Nat) : Int) = .tuple #[.string ⟨d.toArray⟩, .int .i64 0] := by
        unfold getV; rw [if_pos hth]; simp [List.getD_eq_getElem?_getD, hd]
      have hd64 : d.length = 64 := hX.j.raw.n64 d (List.mem_of_getElem? hd)
      have HG := Lib.hid (callsIn_wide (n := n - 1).2 (get_any hX.j.raw ((enOf a xs : Nat) : Int)))
      rw [hgv] at HG
      obtain ⟨c0, c1, c2, c3, c4, c5⟩ := hX.j.cells
      rw [hX.jb] at c4
      have k0 := hX.c0
      have kf := hX.f3
      have hje : (jsOf (JSt.new a sz gen) xs).en = enOf a xs := rfl
      rw [hje] at c4
      gi_wp2_with fail
      refine HG.out.mono ?_
      rintro e w3 ⟨rfl, rfl⟩
      gi_wp2_with fail
      have hXs := hX.set (.int .i64 0)
      have hE5' : (W.setCell ⟨w1.heap.size + 1, 0, none⟩ (.int .i64 0)).cell? ⟨w1.heap.size + 1, 0, none⟩ = some (.int .i64 0) := World.cell?_setCell_same _ _ _ hE1
      obtain ⟨W5, hW5⟩ : ∃ W5, W.setCell ⟨w1.heap.size + 1, 0, none⟩ (.int .i64 0) = W5 := ⟨_, rfl⟩
      rw [hW5] at hXs hE5' ⊢
      clear c0 c1 c2 c3 c4 c5 k0 kf hE1 hX HG hW5 hdf
      refine (callsIn_wide.2 (Tryz.strings_Trim_one ⟨d.toArray⟩ 0 (by decide) W5 (by show d.toArray.size ≤ _; simp; omega))).mono ?_
      rintro e w6 ⟨rfl, hw6⟩
      have hb6 : Below W5.heap.size W5 w6 := by
        rcases hw6 with rfl | rfl
        · exact Below.refl _ _
        · exact (Below.refl _ _).drew
      have hX6 := hXs.below hb6
      have hE6 : w6.cell? ⟨w1.heap.size + 1, 0, none⟩ = some (.int .i64 0) := (hb6.cell (p := ⟨w1.heap.size + 1, 0, none⟩) (by have := hXs.dlt; have := hXs.n; show w1.heap.size + 1 < _; omega)).trans hE5'
      have htn := trim_none d
      rw [show (⟨d.toArray⟩ : ByteArray).data.toList = d by simp]
      obtain ⟨tr, htr⟩ : ∃ tr, (⟨(Lib.trimB d 0).toArray⟩ : ByteArray) = tr := ⟨_, rfl⟩
      rw [htr] at htn ⊢
      have hse := str_eq tr ⟨#[]⟩
      have haz : allZ st.no (enOf a xs) = d.all (· == 0) := by unfold allZ; rw [List.getD_eq_getElem?_getD, hd]; rfl
      clear hw6 hb6 hXs hE5' htr
      obtain ⟨c0, c1, c2, c3, c4, c5⟩ := hX6.j.cells
      rw [hX6.jb, hje] at c4
      have k0 := hX6.c0
      have kf := hX6.f3
      by_cases hz : d.all (· == 0) = true
      · have eR : openR st (JSt.new a sz gen) = (st, 0) := by unfold openR; rw [ho, eL, if_neg (by simp)]; show runOps st (openOps st.no (enOf a xs)) = _; unfold openOps; rw [haz, if_pos hz]; rfl
        obtain rfl := htn.2 hz
        have HR := Lib.hid eR
        have HX6 := Lib.hid hX6
        clear htn haz hz eR hX6 hE2 hE3 hE4 hE5 hse
        gi_wp2_with fail
        refine ⟨by simp, .inl ⟨_, _, rfl, run_takeDeferred HX6.out.d, ?_⟩⟩
        refine ⟨.tuple #[.pointer (some ⟨w.heap.size, 0, none⟩), .int .i64 0], ?_, ?_⟩
        · simp [results, Tryz.f15, go_sem]
        · rw [HR.out, eJ]
          exact HX6.out.fin (er := 0) rfl
      · have hse2 : tr.toList.isEmpty = false := by
          rw [decide_eq_false (fun h => hz (htn.1 h))] at hse
          rw [← Bool.not_eq_true, List.isEmpty_iff]
          intro h; rw [h] at hse; simp at hse
        obtain ⟨⟨st2, er⟩, hr⟩ : ∃ r, runOps st (clearOps (enOf a xs)) = r := ⟨_, rfl⟩
        have eR : openR st (JSt.new a sz gen) = (st2, er) := by unfold openR; rw [ho, eL, if_neg (by simp)]; show runOps st (openOps st.no (enOf a xs)) = _; unfold openOps; rw [haz, if_neg hz]; exact hr
        have hnl := runOps_len (clearOps (enOf a xs)) st
        rw [hr] at hnl
        have HCl := Lib.hid (callsIn_wide (n := n - 1).2 (clear_any hX6.j.raw (enOf a xs) (by omega) (by omega)))
        have HCR := Lib.hid hr
        have HR := Lib.hid eR
        rw [hX6.fb] at HCl
        clear htn haz hz eR hse hr hE2 hE3 hE4 hE5
        gi_wp2_with fail
        refine HCl.out.mono ?_
        intro e w7 hp
        obtain ⟨he, hs⟩ := hp.s
        have hs2 : PlS base F st2 w6 w7 := by have := HCR.out; unfold clearOps at this; rw [this] at hs; exact hs
        have he2 : e = .returned (.int .i64 er) := by have := HCR.out; unfold clearOps at this; rw [this] at he; exact he
        subst he2
        clear he hs hp HCl HCR
        obtain ⟨F2, hX7⟩ := hX6.plate hs2 hnl
        have HX8 := Lib.hid (hX7.set (.int .i64 er))
        clear c0 c1 c2 c3 c4 c5 k0 kf hX6 hs2 hE6
        have k0 := hX7.c0
        have kf := hX7.f3
        obtain ⟨u, hu⟩ := hX7.c3
        clear hX7
        by_cases h0 : er = 0
        · subst h0
          gi_wp2_with fail
          refine ⟨by simp, .inl ⟨_, _, rfl, run_takeDeferred HX8.out.d, ?_⟩⟩
          refine ⟨.tuple #[.pointer (some ⟨w.heap.size, 0, none⟩), .int .i64 0], ?_, ?_⟩
          · simp [results, Tryz.f15, go_sem]
          · rw [HR.out, eJ]
            exact HX8.out.fin (er := 0) rfl
        · have hx2 : (er == 0) = false := by simpa using h0
          gi_wp2_with fail
          gi_region
          gi_wp2_with fail
          have HX9 := HX8.out.below (Below.refl _ _).drew
          refine ⟨by simp, .inl ⟨_, _, rfl, run_takeDeferred HX9.d, ?_⟩⟩
          refine ⟨.tuple #[.pointer none, .int .i64 er], ?_, ?_⟩
          · simp [results, Tryz.f15, go_sem]
          · rw [HR.out]
            exact MadePost.er (HX9.fail h0) h0
end Go.Proofs.YtdebfnlnpfienaaGreatDoor

/- Open as a call; where there is no place for a journal. -/
namespace Go.Proofs.YtdebfnlnpfienaaGreatDoor
open Go.RowKit Lift
set_option linter.unusedSimpArgs false
set_option linter.unusedVariables false

theorem open_any {base : Nat} {w : World} {F : Fp} {st : St} (h : Raw base w F st) (a sz gen : Nat) (h1 : 2 ≤ sz) (h2 : a + sz ≤ st.no.length) (hg : gen < 4294967296) (hb : base ≤ w.heap.size) (hlo : st.lo.length ≤ 1000000) :
    Calls Tryz.prog 39 #[.pointer (some ⟨F.b, 0, none⟩), .int .i64 a, .int .i64 sz, .int .u32 gen] w (MadePost base F (openR st (JSt.new a sz gen)).1 (openR st (JSt.new a sz gen)).2 (openJ st (JSt.new a sz gen)) w) :=
  callsIn_wide.1 (open_in 5 (by omega) h a sz gen h1 h2 hg hb hlo)
set_option maxHeartbeats 1000000 in
set_option maxRecDepth 100000 in
theorem open_no {base : Nat} {w : World} {F : Fp} {st : St} (h : Raw base w F st) (x y : Int) (gen : Nat) (hx : Wf x) (hy : Wf y) (hno : noPlace st x y) :
    Calls Tryz.prog 39 #[.pointer (some ⟨F.b, 0, none⟩), .int .i64 x, .int .i64 y, .int .u32 gen] w (BelowPost (.tuple #[.pointer none, .int .i64 2]) w) := by
  have HP := Lib.hid (place_no h x y gen hx hy hno)
  clear h hno
  go_enter Tryz.func39, Tryz.ntmps39
  go_wp2_with fail
  refine HP.out.mono ?_
  rintro e w1 ⟨rfl, rfl⟩
  go_wp2_with fail
  go_region
  all_goals
    go_wp2_with fail
    go_ret2
    exact ⟨rfl, by go_grown⟩
set_option maxHeartbeats 1000000 in
set_option maxRecDepth 100000 in
theorem format_no {base : Nat} {w : World} {F : Fp} {st : St} (h : Raw base w F st) (x y : Int) (gen : Nat) (hx : Wf x) (hy : Wf y) (hno : noPlace st x y) :
    Calls Tryz.prog 21 #[.pointer (some ⟨F.b, 0, none⟩), .int .i64 x, .int .i64 y, .int .u32 gen] w (BelowPost (.tuple #[.pointer none, .int .i64 2]) w) := by
  have HP := Lib.hid (place_no h x y gen hx hy hno)
  clear h hno
  go_enter Tryz.func21, Tryz.ntmps21
  go_wp2_with fail
  refine HP.out.mono ?_
  rintro e w1 ⟨rfl, rfl⟩
  go_wp2_with fail
  go_ret2
  exact ⟨rfl, Below.refl _ _⟩
end Go.Proofs.YtdebfnlnpfienaaGreatDoor

/- A journal's records as a law reads them, as far as one likes. -/
namespace Go.Proofs.YtdebfnlnpfienaaGreatDoor
open Go.RowKit Go.Shelf Lift
set_option linter.unusedSimpArgs false
set_option linter.unusedVariables false
attribute [local go_sem] Oper.semAt_some

theorem wpListIn_append2 {F : Fence} {nn : Nat} {P : Program} {w : World} {ops : Array Oper} {rest : List Oper} {o : Oper} {a : Act} {Q : Exit → Act → World → Prop} (hgd : o.guard = none) (s x : Operand) (t : TypeId)
    (ho : o.op = .call { callee := .builtin .append, args := #[s, x], argTypes := #[t, t] })
    (base : Nat) (e : TypeId) (i : TypeInfo) (z : Value) (size bytes : Nat) (ht : P.underlying t = some (.slice e)) (hi : P.info? e = some i) (hz : i.zero = some z)
    (hsize : i.size = size) (hby : i.bytes = bytes) (hzs : z.cells.size = size) (hsz : 0 < size)
    (v : Value) (n : Nat) (xs : List Value) (hs : a.eval s = v) (hown : w.ownsRow base e size v n xs)
    (ao : Option Addr) (m c : Nat) (news : List Value) (hx : a.eval x = .slice ao m c) (hnone : ao = none → m = 0 ∧ c = 0) (hl : news.length = m * size) (hnews : ∀ a, ao = some a → ∀ j u, news[j]? = some u → w.cell? (a.add j) = some u) (h1 : ∀ u ∈ news, u.oneCell' = true)
    (h63 : n + m ≤ maxLen) (hbytes : (n + m) * bytes ≤ 140737488355328) (hbase : base ≤ w.heap.size)
    (h : ∀ v' w', w'.ownsRow base e size v' (n + m) (xs ++ news) → w.grownBy w' v.ownBlock → (v' = .slice none 0 0 ↔ v = .slice none 0 0 ∧ m = 0) → (v'.ownBlock = v.ownBlock ∨ ∃ g, v'.ownBlock = some g ∧ w.heap.size ≤ g) → wpListIn F nn P ops Q rest (a.put o.dst v') w') :
    wpListIn F nn P ops Q (o :: rest) a w := by
  refine wpListIn_plain hgd fun K hK => ?_
  obtain ⟨v', w', hrun, h2, h3, h4, h5⟩ := run_append_own2 (P := P) w base t o.type e i z size bytes ht hi hz hsize hby hzs hsz v n xs hown ao m c news hnone hl hnews h1 h63 hbytes hbase
  unfold Oper.wpIn
  refine ⟨?_, ?_⟩
  · simp [Oper.about, ho, resolve, Target.leads, Sem.run_pure]
  · rw [Oper.semAt_plain F _ _ (by rw [ho]; intro c hc'; cases hc')]
    simp [execOp, ho, resolve, invoke, builtin, hs, hx, hrun, Result.andThen]
    exact hK _ _ (h v' w' h2 h3 h4 h5)
theorem wpListIn_push {α : Type} (r : Rd α) {F : Fence} {nn : Nat} {P : Program} {w0 : World} {ops : Array Oper} {rest : List Oper} {o : Oper} {a : Act} {Q : Exit → Act → World → Prop} (hgd : o.guard = none) (s x : Operand) (t : TypeId)
    (ho : o.op = .call { callee := .builtin .append, args := #[s, x], argTypes := #[t, t] })
    (base : Nat) (e : TypeId) (i : TypeInfo) (z : Value) (bytes : Nat) (ht : P.underlying t = some (.slice e)) (hi : P.info? e = some i) (hz : i.zero = some z)
    (hsize : i.size = r.n) (hby : i.bytes = bytes) (hzs : z.cells.size = r.n) (hsz : 0 < r.n)
    (S : Nat → Prop) (v : Value) (l : List α) (hs : a.eval s = v) (hO : Lift.Own r S w0 base e v l) (cs : List Value) (c : α) (g : Nat) (hx : a.eval x = .slice (some ⟨g, 0, none⟩) 1 1) (hgz : g = w0.heap.size)
    (hc : r.rel (fun b => S b ∧ some b ≠ v.ownBlock) w0 cs c) (h1 : ∀ u ∈ cs, u.oneCell' = true)
    (h63 : l.length + 1 ≤ maxLen) (hbytes : (l.length + 1) * bytes ≤ 140737488355328) (hbase : base ≤ w0.heap.size)
    (h : ∀ v' w', Lift.Own r S w' base e v' (l ++ [c]) → Kept (fun k => some k = v.ownBlock) w0 w' → (v'.ownBlock = v.ownBlock ∨ ∃ g, v'.ownBlock = some g ∧ w0.heap.size < g) → wpListIn F nn P ops Q rest (a.put o.dst v') w') :
    wpListIn F nn P ops Q (o :: rest) a (w0.alloc (.cells cs.toArray e)) := by
  subst hgz
  obtain ⟨xs, hown, hrows⟩ := hO
  have hb0 : Below w0.heap.size w0 (w0.alloc (.cells cs.toArray e)) := (Below.refl _ w0).alloc (Nat.le_refl _) _
  refine wpListIn_append2 hgd s x t ho base e i z r.n bytes ht hi hz hsize hby hzs hsz v l.length xs hs (hown.alloc _) _ 1 1 cs hx (by intro h; cases h) (by rw [Nat.one_mul]; exact r.len _ _ _ _ hc) (cells_new _ cs e) h1 h63 hbytes (by simp; omega) ?_
  intro v' w' hown2 hg _ hw
  refine h v' w' (Own.append (hrows.below hb0) (by simpa using (RowsOf.nil r _ _).snoc (r.below hc hb0)) hown2 (by simp) hg hw) (Kept.push hg) ?_
  rcases hw with hw | ⟨g, hw, hgg⟩
  · exact .inl hw
  · exact .inr ⟨g, hw, by simp at hgg; omega⟩
/-- A row of the call's own stands where no cells are written. -/
theorem own_kept_row {α : Type} {r : Rd α} (hf : Flat r) {S : Nat → Prop} {A B : World} {base : Nat} {e : TypeId} {v : Value} {l : List α} {row : Option Nat} (h : Lift.Own r S A base e v l) (hg : A.grownBy B row) (hr : ∀ k, row = some k → ∃ o : Obj, A.heap[k]? = some o ∧ o.isCells = false) : Lift.Own r S B base e v l :=
  h.flat hf (Kept.of_grown hg) (fun k hk e => by
    obtain ⟨o, ho, hc⟩ := hr k e.symm
    obtain ⟨xs, h1, _⟩ := h
    rcases h1.2 with ⟨rfl, _⟩ | ⟨g, cap, cur, rfl, _, hgg, _⟩
    · cases hk
    · obtain rfl : g = k := by injection hk
      rw [ho] at hgg
      cases hgg
      cases hc)
theorem kept_t {X : Nat → Prop} {A B C : World} (h : Kept X A B) (k : Kept X B C) : Kept X A C := h.trans k (fun _ _ h => h) (fun _ _ h => h)
theorem kept_put {X : Nat → Prop} (W : World) (l : Nat) (o' : Obj) (hX : X l) : Kept X W (W.putObj l o') := (Kept.of_grown (grownBy_putObj' W l o')).wide (fun k _ e => by cases e; exact hX)

/-- Texts of whatever size. -/
def strU : Rd ByteArray where
  n := 1
  rel _ _ cs a := cs = [.string a]
  len := by rintro _ w cs a rfl; rfl
  mono := fun _ _ _ _ _ h _ => h
  kept := fun _ _ _ _ _ _ h _ _ => h
theorem strU_flat : Flat strU := fun _ _ _ _ _ _ h => h
theorem strU_own {S : Nat → Prop} {w : World} {base : Nat} {e : TypeId} {v : Value} {l : List ByteArray} (h : Lift.Own strU S w base e v l) (hl : ∀ c ∈ l, c.size ≤ maxTx) : Lift.Own Rd.str S w base e v l := by
  obtain ⟨xs, h1, css, h2, h3, h4⟩ := h
  refine ⟨xs, h1, css, h2, h3, fun k c hc => ?_⟩
  obtain ⟨cs, h5, h6⟩ := h4 k c hc
  exact ⟨cs, h5, h6, hl c (List.mem_of_getElem? hc)⟩
theorem cell_push {W w2 : World} {bo : Nat} {e : TypeId} {v u : Value} {l : List ByteArray} (hO : Lift.Own strU (fun _ => True) W (bo + 2) e v l) (hK : Kept (fun k => some k = v.ownBlock) W w2) (hb : bo < W.heap.size) (c0 : W.cell? ⟨bo, 0, none⟩ = some u) (g0 : W.frozen? ⟨bo, 0, none⟩ = false) :
    w2.cell? ⟨bo, 0, none⟩ = some u ∧ w2.frozen? ⟨bo, 0, none⟩ = false ∧ bo < w2.heap.size := by
  have hn : ¬ (some bo = v.ownBlock) := fun e => by have := (hO.lt _ e.symm).1; omega
  have hz := hK.size
  exact ⟨(hK.cell (p := ⟨bo, 0, none⟩) hb hn).trans c0, (hK.frozen (p := ⟨bo, 0, none⟩) hb hn).trans g0, by omega⟩
theorem keeps_own {α : Type} {r : Rd α} {S : Nat → Prop} {W w2 : World} {base : Nat} {e : TypeId} {v : Value} {l : List α} (h : Lift.Own r S W base e v l) (hK : Kept (fun k => some k = v.ownBlock) W w2) : KeepsOthers W w2 :=
  ⟨hK.size, fun k o hk ho => by
    by_cases e : some k = v.ownBlock
    · exfalso
      obtain ⟨xs, h1, _⟩ := h
      rcases h1.2 with ⟨rfl, _⟩ | ⟨g, cap, cur, rfl, _, hgg, _⟩
      · cases e
      · obtain rfl : k = g := by injection e
        rw [hk] at hgg; cases hgg; cases ho
    · exact (hK.block k (Array.getElem?_eq_some_iff.1 hk).1 e).trans hk⟩
theorem take_pre {α : Type} {a b : List α} (h : a <+: b) : b.take a.length = a := by
  obtain ⟨t, rfl⟩ := h
  simp
end Go.Proofs.YtdebfnlnpfienaaGreatDoor
