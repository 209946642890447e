/- The records that sectors hold, one by one: the program's iterator. -/
import Derived.Test.YtdebfnlnpfienaaGreatDoorJnNext
import Derived.Test.YtdebfnlnpfienaaGreatDoorJnFormat
import Derived.Test.YtdebfnlnpfienaaGreatDoorOrdRange
import Derived.Shelf.Abstract
import Derived.Shelf.RegionOpen
import Derived.WalkKit
import Derived.OwnWalkIn
import Derived.TacticsInMore
import Derived.LoopNIn
import Derived.LoopIn
import Derived.Sort.LoopGhostIn
namespace Go.Proofs.YtdebfnlnpfienaaGreatDoor
open Go.RowKit Go.Shelf Lift
set_option linter.unusedSimpArgs false
set_option linter.unusedVariables false
attribute [local go_sem] Oper.semAt_some

def enOf (a : Nat) (pre : List ByteArray) : Nat := a + (pre.map fun s => needN s.size).sum
theorem enOf_snoc (a : Nat) (pre : List ByteArray) (x : ByteArray) : enOf a (pre ++ [x]) = enOf a pre + needN x.size := by simp [enOf]; omega
def jsOf (js : JSt) (pre : List ByteArray) : JSt := { js with recs := pre, en := enOf js.en pre }
/-- What the iterator needs of the memory when so many have been told. -/
structure FM (base : Nat) (F : Fp) (st : St) (js : JSt) (Jb jb fb eb : Nat) (pre : List ByteArray) (W : World) : Prop where
  j : ∃ J, J.b = Jb ∧ JRaw base W F st J (jsOf js pre)
  c1 : W.cell? ⟨jb, 0, none⟩ = some (.pointer (some ⟨Jb, 0, none⟩))
  c2 : W.cell? ⟨fb, 0, none⟩ = some (.pointer (some ⟨eb, 0, none⟩))
  c3 : ∃ v, W.cell? ⟨eb, 0, none⟩ = some v
  f3 : W.frozen? ⟨eb, 0, none⟩ = false
  n1 : jb < W.heap.size ∧ fb < W.heap.size ∧ eb < W.heap.size
structure FGood (base : Nat) (F : Fp) (st : St) (js : JSt) (Jb jb fb eb : Nat) (J : List ByteArray → World → Prop) : Prop where
  fm : ∀ pre W, J pre W → FM base F st js Jb jb fb eb pre W
  below : ∀ pre W W', J pre W → Below W.heap.size W W' → J pre W'
  set : ∀ pre W v, J pre W → J pre (W.setCell ⟨eb, 0, none⟩ v)
def FOk (st : St) (js : JSt) (pre : List ByteArray) (x : ByteArray) : Prop := st.off = false ∧ nextRec st.no js.lim js.gen pre.length (enOf js.en pre) = some x
def FEnd (st : St) (js : JSt) (eb : Nat) (xs : List ByteArray) (W : World) : Prop :=
  W.cell? ⟨eb, 0, none⟩ = some (.int .i64 (if st.off then 12 else 0)) ∧ (st.off = true → xs = []) ∧ (st.off = false → nextRec st.no js.lim js.gen xs.length (enOf js.en xs) = none ∧ foundL (fun t en => nextRec st.no js.lim js.gen t en) js.lim [] js.en = (xs, enOf js.en xs))
set_option maxRecDepth 100000 in
set_option maxHeartbeats 4000000 in
theorem found_in {base : Nat} {F : Fp} {st : St} {js : JSt} {Jb jb fb eb : Nat} (n : Nat) (hn : 2 ≤ n) (l : Nat) (J : List ByteArray → World → Prop) (hg : FGood base F st js Jb jb fb eb J)
    (hY : ∀ pre x W, J pre W → FOk st js pre x → YieldAt Fence.wide (n - 1) Tryz.prog l #[.string x] W fun e W' => e = .returned (.bool true) ∧ J (pre ++ [x]) W') (W : World) (h0 : J [] W) :
    CallsIn Fence.wide n Tryz.prog 94 #[.func (.yield l) #[] #[], .pointer (some ⟨jb, 0, none⟩), .pointer (some ⟨fb, 0, none⟩)] W fun e W' => (∃ v, e = .returned v) ∧ ∃ xs, FEnd st js eb xs W' ∧ J xs W' := by
  have h1 : 1 ≤ n := by omega
  have hfN : Fence.wide.fn 95 := trivial
  refine callsIn_of_wp Tryz.func94 rfl trivial ?_ rfl
  simp only [Tryz.ntmps94, List.size_toArray, List.length_cons, List.length_nil, Nat.reduceAdd, Nat.reduceSub, Array.replicate_succ, Array.replicate_zero, List.push_toArray, List.append_toArray, List.nil_append, List.cons_append]
  gi_wp2
  gi_loopg [4,5,6] js.lim (fun g _ _ _ wr => ∃ pre, J pre wr ∧ js.lim ≤ g + enOf js.en pre ∧ (st.off = true → pre = []) ∧ (st.off = false → foundL (fun t en => nextRec st.no js.lim js.gen t en) js.lim [] js.en = foundL (fun t en => nextRec st.no js.lim js.gen t en) g pre (enOf js.en pre)))
  case atStart => exact ⟨[], h0, by unfold enOf; omega, fun _ => rfl, fun _ => by simp [enOf]⟩
  case round =>
    obtain ⟨pre, hJ, hgk, ho1, hfo⟩ := hrel
    have hM := hg.fm pre wr hJ
    obtain ⟨J', rfl, hJR⟩ := hM.j
    have HN := Lib.hid (callsIn_wide (n := n - 1).2 (next_any hJR))
    have e1 := hM.c1
    have l1 := hM.n1
    clear hM hJR
    gi_wp2
    refine HN.out.mono ?_
    rintro e w1 ⟨t, ok, er, rfl, rfl, hok, htx, hb⟩
    have hJ1 := hg.below _ _ _ hJ hb
    have hM1 := hg.fm _ _ hJ1
    have e2 := hM1.c2
    obtain ⟨v3, e3⟩ := hM1.c3
    have f3 := hM1.f3
    obtain ⟨m1, m2, m3⟩ := hM1.n1
    have e4 : (w1.setCell ⟨eb, 0, none⟩ (.int .i64 (if st.off = true then 12 else 0))).cell? ⟨eb, 0, none⟩ = some (.int .i64 (if st.off = true then 12 else 0)) := World.cell?_setCell_same _ _ _ e3
    have hJ2 := hg.set _ _ (.int .i64 (if st.off = true then 12 else 0)) hJ1
    obtain ⟨erv, herv⟩ : ∃ erv, (if st.off = true then (12 : Int) else 0) = erv := ⟨_, rfl⟩
    rw [herv] at e4 hJ2 ⊢
    have HER := Lib.hid herv
    clear herv e1 l1 HN hJ hM1
    cases ok with
    | false =>
      have HF : Hid (FEnd st js eb pre (w1.setCell ⟨eb, 0, none⟩ (.int .i64 erv))) := Lib.hid ⟨by rw [e4, ← HER.out], ho1, fun ho => by
        have hn : nextRec st.no js.lim js.gen pre.length (enOf js.en pre) = none := by
          rw [ho] at hok
          simp only [Bool.false_eq_true, ↓reduceIte] at hok
          exact Option.not_isSome_iff_eq_none.1 (by rw [show nextRec st.no js.lim js.gen pre.length (enOf js.en pre) = nextRec st.no (jsOf js pre).lim (jsOf js pre).gen (jsOf js pre).recs.length (jsOf js pre).en from rfl, ← hok]; simp)
        exact ⟨hn, (hfo ho).trans (foundL_none hn)⟩⟩
      clear hok htx e4
      gi_wp2
      refine ⟨(fun f h => (by cases h)), ?_⟩
      gi_wp2
      refine bodyPost_ret (results_none rfl _ _ _) rfl ?_
      exact ⟨⟨_, rfl⟩, pre, HF.out, hJ2⟩
    | true =>
      have hoff : st.off = false := by
        cases ho : st.off with
        | false => rfl
        | true => rw [ho] at hok; simp at hok
      have hn : nextRec st.no js.lim js.gen pre.length (enOf js.en pre) = some t := htx rfl
      obtain ⟨fn, tmps, assign, body, hy, hR⟩ := hY pre t _ hJ2 ⟨hoff, hn⟩
      have HF := hfo hoff
      clear hok htx e4 hfo
      gi_wp2
      refine hR.mono ?_
      rintro e W3 ⟨rfl, hJ3⟩
      have hM3 := hg.fm _ _ hJ3
      obtain ⟨J3, _, hJR3⟩ := hM3.j
      have hen3 : enOf js.en (pre ++ [t]) < js.lim := hJR3.en
      rw [enOf_snoc] at hen3
      have hnd : 1 ≤ needN t.size := by unfold needN; omega
      obtain ⟨g', rfl⟩ : ∃ g', gk = g' + 1 := ⟨gk - 1, by omega⟩
      clear hM3 hJR3
      gi_wp2
      gi_roundg g'
      case measure => omega
      case rel => exact ⟨pre ++ [t], hJ3, by rw [enOf_snoc]; omega, (fun h => (by rw [hoff] at h; cases h)), fun _ => by rw [HF, foundL_some hn, enOf_snoc]⟩
end Go.Proofs.YtdebfnlnpfienaaGreatDoor
