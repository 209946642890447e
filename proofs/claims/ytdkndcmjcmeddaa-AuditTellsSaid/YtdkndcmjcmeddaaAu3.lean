/- twice; Sound. -/
import Derived.Test.YtdkndcmjcmeddaaAu2
namespace Go.Proofs.Ytdkndcmjcmeddaa
open Go.RowKit Lift
set_option linter.unusedSimpArgs false
set_option linter.unusedVariables false

theorem wpList_unguard {P : Program} {ops : Array Oper} {rest : List Oper} {o : Oper} {a : Act} {w : World} {Q : Exit → Act → World → Prop} (hw : Region.wanted o (yielded ops a.tmps) = true) (h : wpList P ops Q ({ o with guard := none } :: rest) a w) : wpList P ops Q (o :: rest) a w := by
  unfold wpList at h ⊢
  have hw2 : Region.wanted { o with guard := none } (yielded ops a.tmps) = true := by simp [Region.wanted]
  rw [if_pos hw2] at h
  rw [if_pos hw]
  exact h
/-- How many have a number. -/
def times (l : List Rec) (x : Int) : Nat := (l.filter (fun c => decide (c.2.2.2.2.1 = x))).length
/-- From one on: is a number above 0 there the second time? -/
def twL : List Rec → List Rec → Bool
  | _, [] => false
  | done, c :: r => if 0 < c.2.2.2.2.1 ∧ 0 < times done c.2.2.2.2.1 then true else twL (done ++ [c]) r
theorem times_le (l : List Rec) (x : Int) : times l x ≤ l.length := List.length_filter_le _ _
theorem times_snoc (l : List Rec) (c : Rec) (x : Int) : times (l ++ [c]) x = times l x + if c.2.2.2.2.1 = x then 1 else 0 := by
  unfold times
  rw [List.filter_append, List.length_append]
  by_cases h : c.2.2.2.2.1 = x <;> simp [h]
theorem zero3 (w : World) : (zeroValue 3).run Try.prog w = .ok (.int .i64 0) w := by kernel_rfl
/-- How often each number has been seen. -/
def seen (l : List Rec) : Int → Option Int := fun x => if times l x = 0 then none else some (times l x : Int)
theorem seen_get (l : List Rec) (x : Int) : (seen l x).getD 0 = (times l x : Int) := by
  unfold seen
  split
  · rename_i h; rw [h]; rfl
  · rfl
theorem seen_put (l : List Rec) (c : Rec) (y : Int) : (if y = c.2.2.2.2.1 then some ((times l c.2.2.2.2.1 : Int) + 1) else seen l y) = seen (l ++ [c]) y := by
  unfold seen
  rw [times_snoc]
  by_cases h : y = c.2.2.2.2.1
  · subst h; simp
  · have h2 : ¬ c.2.2.2.2.1 = y := fun e => h e.symm
    simp [h, h2]
def twiceB (l : List Rec) : Bool := twL [] l
set_option maxHeartbeats 1000000 in
set_option maxRecDepth 100000 in
theorem twice_any (ao : Option Addr) (cap : Nat) (l : List Rec) (w : World) (hl : SlAt rRec (· < w.heap.size) w ao l) (hlen : l.length ≤ 1000) :
    Calls Try.prog 23 #[.slice ao l.length cap] w (BelowPost (.bool (twiceB l)) w) := by
  have hmm := @run_makeMap Try.prog
  go_enter Try.func23, Try.ntmps23
  go_wp2_with fail
  go_loopw [9] (fun v9 wr => ∃ k : Nat, k ≤ l.length ∧ v9 = .int .i64 k ∧ Hid (twiceB l = twL (l.take k) (l.drop k)) ∧ IMap Try.prog 3 3 wr w.heap.size k (seen (l.take k)) ∧ Below w.heap.size w wr) (fun v9 _ => l.length - (intOf v9).toNat)
  case atStart => exact ⟨0, by omega, rfl, Lib.hid rfl, (IMap.made _ _ _ _).eqf (fun x _ => by simp [seen, times]), (Below.refl _ _).alloc (Nat.le_refl _) _⟩
  case round =>
    obtain ⟨k, hk, rfl, hix, hm, hb⟩ := hrel
    by_cases hkl : k < l.length
    · obtain ⟨c, hcl⟩ := some_at hkl
      obtain ⟨bb, oo, rfl, hs1, hb1, hok, x0, x1, x2, x3, x4, x5, x6, x7, x8⟩ := rec_get (hl.old hb) hcl
      have g4 : Wf c.2.2.2.2.1 := hok.2.2.2.2.1
      have hkl2 : (k : Int) < (l.length : Int) := by omega
      have hlim : k ≤ 1000 := by omega
      have htl : times (l.take k) c.2.2.2.2.1 ≤ 1000 := by have := times_le (l.take k) c.2.2.2.2.1; simp at this; omega
      have hi2 := hix.out
      rw [drop_at2 hcl, twL] at hi2
      have HTK := Lib.hid (take_at2 hcl)
      have hgt := seen_get (l.take k) c.2.2.2.2.1
      have HGT := Lib.hid hgt
      have hml := hm.lt
      clear hgt hok
      obtain ⟨t, htt⟩ : ∃ t, times (l.take k) c.2.2.2.2.1 = t := ⟨_, rfl⟩
      rw [htt] at hi2 htl
      have HTT := Lib.hid htt
      clear htt
      by_cases hpos : 0 < c.2.2.2.2.1
      · have hd1 : decide ((0 : Int) < c.2.2.2.2.1) = true := by simpa using hpos
        by_cases ht0 : 0 < t
        · rw [if_pos ⟨hpos, ht0⟩] at hi2
          have hd2 : decide ((1 : Int) < (t : Int) + 1) = true := by simp; omega
          have HI := Lib.hid hi2
          clear hi2 hpos ht0
          go_wp2_with (first
            | (at_lookup; refine wpList_unguard (by rfl) ?_; refine wpList_imap_get _ rfl _ _ 64 rfl 3 3 Try.underlying64 Try.underlying3 Try.underlying3 (zero3 _) w.heap.size (k + 1) _ rfl hm1 _ rfl g4 ?_; intro hwv; clear hwv; simp only [↓reduceIte, Option.getD_some])
            | (at_lookup; refine wpList_imap_get _ rfl _ _ 64 rfl 3 3 Try.underlying64 Try.underlying3 Try.underlying3 (zero3 _) w.heap.size k _ rfl (hm.alloc _) _ rfl g4 ?_; intro hwv; rw [HGT.out, HTT.out]; clear hwv)
            | (at_mapUpdate; refine wpList_imap_put _ rfl _ _ _ 64 rfl 3 3 Try.underlying64 Try.underlying3 Try.underlying3 w.heap.size k _ rfl (hm.alloc _) (by unfold maxLen; omega) _ ((t : Int) + 1) rfl (by first | rfl | (simp [Act.eval]; done) | (go_num)) g4 (Wf.of (by omega) (by omega)) ?_; intro w1 hm1 hg1;
               have z4 : w1.cell? ⟨wr.heap.size, 4, none⟩ = some (.int .i64 c.2.2.2.2.1) := hg1.cell (a := ⟨wr.heap.size, 4, none⟩) (by simp [go_sem]) (by simp; omega);
               have HB1 := Lib.hid (show Below w.heap.size w w1 from (hb.alloc hb.size _).trans ((Kept.of_grown hg1).below (by simp; omega) (fun j hj => by cases hj; omega)))))
          go_ret
          exact ⟨by rw [HI.out]; rfl, HB1.out⟩
        · rw [if_neg (fun h => ht0 h.2)] at hi2
          have hd2 : decide ((1 : Int) < (t : Int) + 1) = false := by simp; omega
          have HI := Lib.hid hi2
          clear hi2 hpos
          go_wp2_with (first
            | (at_lookup; refine wpList_unguard (by rfl) ?_; refine wpList_imap_get _ rfl _ _ 64 rfl 3 3 Try.underlying64 Try.underlying3 Try.underlying3 (zero3 _) w.heap.size (k + 1) _ rfl hm1 _ rfl g4 ?_; intro hwv; clear hwv; simp only [↓reduceIte, Option.getD_some])
            | (at_lookup; refine wpList_imap_get _ rfl _ _ 64 rfl 3 3 Try.underlying64 Try.underlying3 Try.underlying3 (zero3 _) w.heap.size k _ rfl (hm.alloc _) _ rfl g4 ?_; intro hwv; rw [HGT.out, HTT.out]; clear hwv)
            | (at_mapUpdate; refine wpList_imap_put _ rfl _ _ _ 64 rfl 3 3 Try.underlying64 Try.underlying3 Try.underlying3 w.heap.size k _ rfl (hm.alloc _) (by unfold maxLen; omega) _ ((t : Int) + 1) rfl (by first | rfl | (simp [Act.eval]; done) | (go_num)) g4 (Wf.of (by omega) (by omega)) ?_; intro w1 hm1 hg1;
               have z4 : w1.cell? ⟨wr.heap.size, 4, none⟩ = some (.int .i64 c.2.2.2.2.1) := hg1.cell (a := ⟨wr.heap.size, 4, none⟩) (by simp [go_sem]) (by simp; omega);
               have HB1 := Lib.hid (show Below w.heap.size w w1 from (hb.alloc hb.size _).trans ((Kept.of_grown hg1).below (by simp; omega) (fun j hj => by cases hj; omega)))))
          have hm2 := hm1.eqf (g := seen (l.take (k + 1))) (fun y _ => by rw [HTK.out, ← seen_put, HTT.out])
          go_roundw
          case measure => simp [intOf]; omega
          case rel => exact ⟨k + 1, by omega, by go_num, Lib.hid (by rw [HTK.out]; exact HI.out), hm2, HB1.out⟩
      · rw [if_neg (fun h => hpos h.1)] at hi2
        have hd1 : decide ((0 : Int) < c.2.2.2.2.1) = false := by simpa using hpos
        have HI := Lib.hid hi2
        clear hi2 hpos
        go_wp2_with (first
          | (at_lookup; refine wpList_unguard (by rfl) ?_; refine wpList_imap_get _ rfl _ _ 64 rfl 3 3 Try.underlying64 Try.underlying3 Try.underlying3 (zero3 _) w.heap.size (k + 1) _ rfl hm1 _ rfl g4 ?_; intro hwv; clear hwv; simp only [↓reduceIte, Option.getD_some])
          | (at_lookup; refine wpList_imap_get _ rfl _ _ 64 rfl 3 3 Try.underlying64 Try.underlying3 Try.underlying3 (zero3 _) w.heap.size k _ rfl (hm.alloc _) _ rfl g4 ?_; intro hwv; rw [HGT.out, HTT.out]; clear hwv)
          | (at_mapUpdate; refine wpList_imap_put _ rfl _ _ _ 64 rfl 3 3 Try.underlying64 Try.underlying3 Try.underlying3 w.heap.size k _ rfl (hm.alloc _) (by unfold maxLen; omega) _ ((t : Int) + 1) rfl (by first | rfl | (simp [Act.eval]; done) | (go_num)) g4 (Wf.of (by omega) (by omega)) ?_; intro w1 hm1 hg1;
             have z4 : w1.cell? ⟨wr.heap.size, 4, none⟩ = some (.int .i64 c.2.2.2.2.1) := hg1.cell (a := ⟨wr.heap.size, 4, none⟩) (by simp [go_sem]) (by simp; omega);
             have HB1 := Lib.hid (show Below w.heap.size w w1 from (hb.alloc hb.size _).trans ((Kept.of_grown hg1).below (by simp; omega) (fun j hj => by cases hj; omega)))))
        have hm2 := hm1.eqf (g := seen (l.take (k + 1))) (fun y _ => by rw [HTK.out, ← seen_put, HTT.out])
        go_roundw
        case measure => simp [intOf]; omega
        case rel => exact ⟨k + 1, by omega, by go_num, Lib.hid (by rw [HTK.out]; exact HI.out), hm2, HB1.out⟩
    · obtain rfl : k = l.length := by omega
      have hi2 := hix.out
      rw [List.drop_length, twL] at hi2
      have HI := Lib.hid hi2
      clear hi2
      go_wp2_with fail
      go_ret
      exact ⟨by rw [HI.out]; rfl, hb⟩
end Go.Proofs.Ytdkndcmjcmeddaa
