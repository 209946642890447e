/- The reference's Param, Without and Same; a property of one's own. -/
import Derived.Test.YtioeobkneikgfaaPr2
namespace Go.Proofs.Ytioeobkneikgfaa
open Go.RowKit Lift
set_option linter.unusedSimpArgs false
set_option linter.unusedVariables false

abbrev propC (g n : ByteArray) (ao : Option Addr) (len cap : Nat) (v : ByteArray) (aa : Option Addr) (na ca : Nat) : Obj := .cells #[.string g, .string n, .slice ao len cap, .string v, .slice aa na ca] 25 
abbrev prop0 : Obj := .cells #[.string ByteArray.empty, .string ByteArray.empty, .slice none 0 0, .string ByteArray.empty, .slice none 0 0] 25

theorem parOf_cons (name : ByteArray) (c : Par) (r : List Par) : parOf name (c :: r) = if c.1 = name then (c.2, true) else parOf name r := by
  unfold parOf
  rw [List.find?_cons]
  by_cases h : c.1 = name <;> simp [h]

set_option maxHeartbeats 1000000 in
set_option maxRecDepth 100000 in
theorem param_ref (g n v name : ByteArray) (aa : Option Addr) (na ca : Nat) (ao : Option Addr) (cap : Nat) (l : List Par) (w : World) (hl : SlAt rPar (· < w.heap.size) w ao l) (hlen : l.length ≤ 100000) :
    Calls Try.prog 10 #[propV g n ao l.length cap v aa na ca, .string name] w (PairB (parOf name l) w) := by
  unfold propV
  have hA : Below w.heap.size w (w.alloc (propC g n ao l.length cap v aa na ca)) := (Below.refl _ _).alloc (Nat.le_refl _) _
  go_enter Try.func10, Try.ntmps10
  go_wp2_with fail
  go_loopw [6] (fun v6 wr => ∃ k : Nat, k ≤ l.length ∧ v6 = .int .i64 k ∧ Hid (parOf name l = parOf name (l.drop k)) ∧ Below (w.heap.size + 1) (w.alloc (propC g n ao l.length cap v aa na ca)) wr) (fun v6 _ => l.length - (intOf v6).toNat)
  case atStart => exact ⟨0, by omega, rfl, Lib.hid rfl, Below.refl _ _⟩
  case round =>
    obtain ⟨k, hk, rfl, hp, hb⟩ := hrel
    obtain ⟨hc, hf⟩ := bcell hb
    have hz := bsize hb
    simp only [World.size_alloc] at hz
    have x0 : wr.cell? ⟨w.heap.size, 0, none⟩ = some (.string g) := by rw [hc _ _ (by omega)]; first | (simp [go_sem]; done) | (simp [go_sem]; rfl)
    have x1 : wr.cell? ⟨w.heap.size, 1, none⟩ = some (.string n) := by rw [hc _ _ (by omega)]; first | (simp [go_sem]; done) | (simp [go_sem]; rfl)
    have x2 : wr.cell? ⟨w.heap.size, 2, none⟩ = some (.slice ao l.length cap) := by rw [hc _ _ (by omega)]; first | (simp [go_sem]; done) | (simp [go_sem]; rfl)
    have x3 : wr.cell? ⟨w.heap.size, 3, none⟩ = some (.string v) := by rw [hc _ _ (by omega)]; first | (simp [go_sem]; done) | (simp [go_sem]; rfl)
    have x4 : wr.cell? ⟨w.heap.size, 4, none⟩ = some (.slice aa na ca) := by rw [hc _ _ (by omega)]; first | (simp [go_sem]; done) | (simp [go_sem]; rfl)
    clear hc hf
    have hB := hA.trans (hb.mono (by omega))
    by_cases hkl : k < l.length
    · obtain ⟨c, hcl⟩ := some_at hkl
      obtain ⟨bb, oo, rfl, hs1, hb4, hok, y0, y1⟩ := par_get (hl.old hB) hcl
      have hk2 : (k : Int) < (l.length : Int) := by omega
      have hlim : k ≤ 100000 := by omega
      have hp2 := hp.out
      rw [drop_at2 hcl, parOf_cons] at hp2
      by_cases hcn : c.1 = name
      · rw [if_pos hcn] at hp2
        have HP := Lib.hid hp2
        have ht : (c.1.toList == name.toList) = true := by rw [str_eq]; simpa using hcn
        clear hp2 hcn
        go_wp2_with fail
        go_ret2
        exact ⟨by rw [HP.out]; rfl, hB⟩
      · rw [if_neg hcn] at hp2
        have HP := Lib.hid hp2
        have ht : (c.1.toList == name.toList) = false := by rw [str_eq]; simpa using hcn
        clear hp2 hcn
        go_wp2_with fail
        go_roundw
        case measure => simp [intOf]; omega
        case rel => exact ⟨k + 1, by omega, by go_num, HP, hb⟩
    · obtain rfl : k = l.length := by omega
      have hp2 := hp.out
      rw [List.drop_length] at hp2
      have HP := Lib.hid hp2
      clear hp2
      go_wp2_with fail
      go_ret2
      exact ⟨by rw [HP.out]; rfl, hB⟩

theorem propPost_of {g n v : ByteArray} {aa : Option Addr} {na ca B : Nat} {ao : Option Addr} {cap : Nat} {l : List Par} {w wr wf : World} (hO : Own rPar (fun _ => True) wr B 42 (.slice ao l.length cap) l) (hB : Below w.heap.size w wr) (hb : w.heap.size ≤ B) (hk : Kept (fun k => w.heap.size ≤ k ∧ k < B) wr wf) :
    PropPost g n l v aa na ca w (.returned (propV g n ao l.length cap v aa na ca)) wf :=
  ⟨_, _, rfl, (hO.low par_flat (hk.wide (fun k _ h => h.2))).rebase hb, hB.trans (hk.below hB.size (fun k h => h.1))⟩

set_option maxHeartbeats 1000000 in
set_option maxRecDepth 100000 in
theorem without_ref (g n v name : ByteArray) (aa : Option Addr) (na ca : Nat) (ao : Option Addr) (cap : Nat) (l : List Par) (w : World) (hl : SlAt rPar (· < w.heap.size) w ao l) (hlen : l.length ≤ 100000) :
    Calls Try.prog 13 #[propV g n ao l.length cap v aa na ca, .string name] w (PropPost g n (l.filter fun c => !decide (c.1 = name)) v aa na ca w) := by
  unfold propV
  have hA : Below w.heap.size w ((w.alloc (propC g n ao l.length cap v aa na ca)).alloc prop0) := ((Below.refl _ _).alloc (Nat.le_refl _) _).alloc (by simp) _
  obtain ⟨i0, hi, hz0, hz1, hz2⟩ := par_info0
  have HI := Lib.hid hi; have HZ0 := Lib.hid hz0; have HZ1 := Lib.hid hz1; have HZ2 := Lib.hid hz2
  clear hi hz0 hz1 hz2
  go_enter Try.func13, Try.ntmps13
  go_wp2_with fail
  go_loopw [5, 6] (fun v5 v6 wr => ∃ k : Nat, k ≤ l.length ∧ v6 = .int .i64 k ∧ Own rPar (fun _ => True) wr (w.heap.size + 1 + 1) 42 v5 ((l.take k).filter fun c => !decide (c.1 = name)) ∧ Below (w.heap.size + 1 + 1) ((w.alloc (propC g n ao l.length cap v aa na ca)).alloc prop0) wr) (fun _ v6 _ => l.length - (intOf v6).toNat)
  case atStart => exact ⟨0, by omega, rfl, Own.nil _ _ _ _ _, Below.refl _ _⟩
  case round =>
    obtain ⟨k, hk, rfl, hO, hb⟩ := hrel
    obtain ⟨hc, hf⟩ := bcell hb
    have hz := bsize hb
    simp only [World.size_alloc] at hz
    have x0 : wr.cell? ⟨w.heap.size, 0, none⟩ = some (.string g) := by rw [hc _ _ (by omega)]; first | (simp [go_sem]; done) | (simp [go_sem]; rfl)
    have x1 : wr.cell? ⟨w.heap.size, 1, none⟩ = some (.string n) := by rw [hc _ _ (by omega)]; first | (simp [go_sem]; done) | (simp [go_sem]; rfl)
    have x2 : wr.cell? ⟨w.heap.size, 2, none⟩ = some (.slice ao l.length cap) := by rw [hc _ _ (by omega)]; first | (simp [go_sem]; done) | (simp [go_sem]; rfl)
    have x3 : wr.cell? ⟨w.heap.size, 3, none⟩ = some (.string v) := by rw [hc _ _ (by omega)]; first | (simp [go_sem]; done) | (simp [go_sem]; rfl)
    have x4 : wr.cell? ⟨w.heap.size, 4, none⟩ = some (.slice aa na ca) := by rw [hc _ _ (by omega)]; first | (simp [go_sem]; done) | (simp [go_sem]; rfl)
    have hB := hA.trans (hb.mono (by omega))
    by_cases hkl : k < l.length
    · clear hc hf
      obtain ⟨c, hcl⟩ := some_at hkl
      obtain ⟨bb, oo, rfl, hs1, hb4, hok, y0, y1⟩ := par_get (hl.old hB) hcl
      have hk2 : (k : Int) < (l.length : Int) := by omega
      have hlim : k ≤ 100000 := by omega
      have HT := Lib.hid (take_at2 hcl)
      have hfl : ((l.take k).filter fun c => !decide (c.1 = name)).length ≤ k := Nat.le_trans (List.length_filter_le _ _) (by simp; omega)
      by_cases hcn : c.1 = name
      · have ht : (c.1.toList == name.toList) = true := by rw [str_eq]; simpa using hcn
        have HO := Lib.hid (show ((l.take k).filter fun c => !decide (c.1 = name)) = (l.take (k + 1)).filter fun c => !decide (c.1 = name) by rw [HT.out, List.filter_append]; simp [hcn])
        clear hcn
        go_wp2_with fail
        go_roundw
        case measure => simp [intOf]; omega
        case rel => exact ⟨k + 1, by omega, by go_num, by rw [← HO.out]; exact hO, hb⟩
      · have ht : (c.1.toList == name.toList) = false := by rw [str_eq]; simpa using hcn
        have HO := Lib.hid (show ((l.take k).filter fun c => !decide (c.1 = name)) ++ [c] = (l.take (k + 1)).filter fun c => !decide (c.1 = name) by rw [HT.out, List.filter_append]; simp [hcn])
        clear hcn
        go_wp2_with (first
          | (at_builtin; refine wpList_push rPar rfl _ _ 22 rfl (w.heap.size + 1 + 1) 42 i0 _ 32 Try.underlying22 HI.out HZ0.out HZ1.out HZ2.out rfl (by decide) (fun _ => True) _ ((l.take k).filter fun c => !decide (c.1 = name)) rfl hO (cellsPar c) c _ rfl (by simp) (par_rel _ _ c hok) (by simp [cellsPar, Value.oneCell']) (by unfold maxLen; omega) (by omega) (by first | omega | (simp; omega)) ?_; intro v2 w2 hO2 hK2 hw2))
        have hB2 := hO.kbelow (B := w.heap.size + 1 + 1) (by omega) (by omega) hK2
        go_roundw
        case measure => simp [intOf]; omega
        case rel => exact ⟨k + 1, by omega, by go_num, by rw [← HO.out]; exact hO2, hb.trans hB2⟩
    · obtain rfl : k = l.length := by omega
      have y0 : wr.cell? ⟨w.heap.size + 1, 0, none⟩ = some (.string ByteArray.empty) := by rw [hc _ _ (by omega)]; first | (simp [go_sem]; done) | (simp [go_sem]; rfl)
      have y1 : wr.cell? ⟨w.heap.size + 1, 1, none⟩ = some (.string ByteArray.empty) := by rw [hc _ _ (by omega)]; first | (simp [go_sem]; done) | (simp [go_sem]; rfl)
      have y2 : wr.cell? ⟨w.heap.size + 1, 2, none⟩ = some (.slice none 0 0) := by rw [hc _ _ (by omega)]; first | (simp [go_sem]; done) | (simp [go_sem]; rfl)
      have y3 : wr.cell? ⟨w.heap.size + 1, 3, none⟩ = some (.string ByteArray.empty) := by rw [hc _ _ (by omega)]; first | (simp [go_sem]; done) | (simp [go_sem]; rfl)
      have y4 : wr.cell? ⟨w.heap.size + 1, 4, none⟩ = some (.slice none 0 0) := by rw [hc _ _ (by omega)]; first | (simp [go_sem]; done) | (simp [go_sem]; rfl)
      have f0 : ∀ j, wr.frozen? ⟨w.heap.size, j, none⟩ = false := fun j => by rw [hf _ _ (by omega)]; simp [go_sem]
      have f1 : ∀ j, wr.frozen? ⟨w.heap.size + 1, j, none⟩ = false := fun j => by rw [hf _ _ (by omega)]; simp [go_sem]
      clear hc hf
      rw [List.take_length] at hO
      obtain ⟨ao2, cap2, rfl⟩ := hO.form
      go_wp2_with fail
      refine bodyPost_ret (v := propV g n ao2 (l.filter fun c => !decide (c.1 = name)).length cap2 v aa na ca) (by simp [propV, results, Try.results13, go_sem, y0, y1, y2, y3, y4]) rfl ?_
      refine propPost_of hO hB (by omega) ?_
      ((repeat (with_reducible refine Kept.set ?_ (by first | omega | (constructor <;> (first | omega | (simp; omega) | (simp; done))) | (simp; omega) | (simp; done)))); with_reducible exact Kept.refl _ _)

set_option maxHeartbeats 1000000 in
set_option maxRecDepth 100000 in
theorem same_prop (g n v : ByteArray) (aa bb : Option Addr) (na ca cb : Nat) (ao bo : Option Addr) (cap cap2 : Nat) (l : List Par) (w : World) (hl : SlAt rPar (· < w.heap.size) w ao l) (hm : SlAt rPar (· < w.heap.size) w bo l) (hlen : l.length ≤ 100000) :
    Calls Try.prog 11 #[propV g n ao l.length cap v aa na ca, propV g n bo l.length cap2 v bb na cb] w (BelowPost (.bool true) w) := by
  unfold propV
  have hA : Below w.heap.size w ((w.alloc (propC g n ao l.length cap v aa na ca)).alloc (propC g n bo l.length cap2 v bb na cb)) := ((Below.refl _ _).alloc (Nat.le_refl _) _).alloc (by simp) _
  go_enter Try.func11, Try.ntmps11
  go_wp2_with fail
  go_loopw [5] (fun v5 wr => ∃ k : Nat, k ≤ l.length ∧ v5 = .int .i64 k ∧ Below (w.heap.size + 1 + 1) ((w.alloc (propC g n ao l.length cap v aa na ca)).alloc (propC g n bo l.length cap2 v bb na cb)) wr) (fun v5 _ => l.length - (intOf v5).toNat)
  case atStart => exact ⟨0, by omega, rfl, Below.refl _ _⟩
  case round =>
    obtain ⟨k, hk, rfl, hb⟩ := hrel
    obtain ⟨hc, hf⟩ := bcell hb
    have hz := bsize hb
    simp only [World.size_alloc] at hz
    have x0 : wr.cell? ⟨w.heap.size, 0, none⟩ = some (.string g) := by rw [hc _ _ (by omega)]; first | (simp [go_sem]; done) | (simp [go_sem]; rfl)
    have x1 : wr.cell? ⟨w.heap.size, 1, none⟩ = some (.string n) := by rw [hc _ _ (by omega)]; first | (simp [go_sem]; done) | (simp [go_sem]; rfl)
    have x2 : wr.cell? ⟨w.heap.size, 2, none⟩ = some (.slice ao l.length cap) := by rw [hc _ _ (by omega)]; first | (simp [go_sem]; done) | (simp [go_sem]; rfl)
    have x3 : wr.cell? ⟨w.heap.size, 3, none⟩ = some (.string v) := by rw [hc _ _ (by omega)]; first | (simp [go_sem]; done) | (simp [go_sem]; rfl)
    have x4 : wr.cell? ⟨w.heap.size, 4, none⟩ = some (.slice aa na ca) := by rw [hc _ _ (by omega)]; first | (simp [go_sem]; done) | (simp [go_sem]; rfl)
    have y0 : wr.cell? ⟨w.heap.size + 1, 0, none⟩ = some (.string g) := by rw [hc _ _ (by omega)]; first | (simp [go_sem]; done) | (simp [go_sem]; rfl)
    have y1 : wr.cell? ⟨w.heap.size + 1, 1, none⟩ = some (.string n) := by rw [hc _ _ (by omega)]; first | (simp [go_sem]; done) | (simp [go_sem]; rfl)
    have y2 : wr.cell? ⟨w.heap.size + 1, 2, none⟩ = some (.slice bo l.length cap2) := by rw [hc _ _ (by omega)]; first | (simp [go_sem]; done) | (simp [go_sem]; rfl)
    have y3 : wr.cell? ⟨w.heap.size + 1, 3, none⟩ = some (.string v) := by rw [hc _ _ (by omega)]; first | (simp [go_sem]; done) | (simp [go_sem]; rfl)
    have y4 : wr.cell? ⟨w.heap.size + 1, 4, none⟩ = some (.slice bb na cb) := by rw [hc _ _ (by omega)]; first | (simp [go_sem]; done) | (simp [go_sem]; rfl)
    clear hc hf
    have hB := hA.trans (hb.mono (by omega))
    by_cases hkl : k < l.length
    · obtain ⟨c, hcl⟩ := some_at hkl
      obtain ⟨b1, o1, rfl, hs1, hb1, hok, u0, u1⟩ := par_get (hl.old hB) hcl
      obtain ⟨b2, o2, rfl, hs2, hb2, _, z0, z1⟩ := par_get (hm.old hB) hcl
      have hk2 : (k : Int) < (l.length : Int) := by omega
      have hlim : k ≤ 100000 := by omega
      go_wp2_with fail
      (refine wp_region_quiet_lit (by kernel_rfl) (by kernel_rfl) ?_; (repeat (any_goals (first | go_big_quiet_step (fail) | quiet_step (fail) | (refine wpQuiet_step (fun K hK => ?_); go_simp; split <;> (refine hK _ ?_; clear hK K))))); all_goals (refine wpQuiet_nil ?_; intro _ hw'; obtain ⟨nq, hw''⟩ := hw'; subst hw''))
      go_wp2_with fail
      go_roundw
      case measure => simp [intOf]; omega
      case rel => exact ⟨k + 1, by omega, by go_num, bN _ hb⟩
    · obtain rfl : k = l.length := by omega
      go_wp2_with fail
      go_ret
      exact ⟨rfl, hB⟩

set_option maxHeartbeats 1000000 in
set_option maxRecDepth 100000 in
theorem great_any (g n v : ByteArray) (aa : Option Addr) (na ca : Nat) (ao : Option Addr) (len cap : Nat) (w : World) (hl : len ≤ 20) (hv : v.size ≤ 5000) :
    Calls Try.prog 7 #[propV g n ao len cap v aa na ca] w (BelowPost (.bool false) w) := by
  unfold propV
  have h1 : decide ((20 : Int) < (len : Int)) = false := by simp; omega
  have h2 : decide ((5000 : Int) < (v.size : Int)) = false := by simp; omega
  go_enter Try.func7, Try.ntmps7
  go_wp2_with fail
  go_ret
  exact ⟨rfl, (Below.refl _ _).alloc (Nat.le_refl _) _⟩
set_option maxHeartbeats 1000000 in
set_option maxRecDepth 100000 in
theorem great_yes (g n v : ByteArray) (aa : Option Addr) (na ca : Nat) (ao : Option Addr) (len cap : Nat) (w : World) (h : ¬ (len ≤ 20 ∧ v.size ≤ 5000)) :
    Calls Try.prog 7 #[propV g n ao len cap v aa na ca] w (BelowPost (.bool true) w) := by
  unfold propV
  by_cases hl : len ≤ 20
  · have h1 : decide ((20 : Int) < (len : Int)) = false := by simp; omega
    have h2 : decide ((5000 : Int) < (v.size : Int)) = true := by simp; omega
    go_enter Try.func7, Try.ntmps7
    go_wp2_with fail
    go_ret
    exact ⟨rfl, (Below.refl _ _).alloc (Nat.le_refl _) _⟩
  · have h1 : decide ((20 : Int) < (len : Int)) = true := by simp; omega
    go_enter Try.func7, Try.ntmps7
    go_wp2_with fail
    go_ret
    exact ⟨rfl, (Below.refl _ _).alloc (Nat.le_refl _) _⟩

theorem own_facts {g n v : ByteArray} {aa : Option Addr} {na ca : Nat} {ao : Option Addr} {cap len : Nat} {w w2 : World} (hK : Kept (· = w.heap.size + 1 + 1) (((w.alloc (propC g n ao len cap v aa na ca)).alloc prop0).alloc (.cells #[] 42)) w2) :
    w2.cell? ⟨w.heap.size, 0, none⟩ = some (.string g) ∧ w2.cell? ⟨w.heap.size, 1, none⟩ = some (.string n) ∧ w2.cell? ⟨w.heap.size, 2, none⟩ = some (.slice ao len cap) ∧ w2.cell? ⟨w.heap.size, 3, none⟩ = some (.string v) ∧ w2.cell? ⟨w.heap.size, 4, none⟩ = some (.slice aa na ca) ∧
    w2.cell? ⟨w.heap.size + 1, 0, none⟩ = some (.string ByteArray.empty) ∧ w2.cell? ⟨w.heap.size + 1, 1, none⟩ = some (.string ByteArray.empty) ∧ w2.cell? ⟨w.heap.size + 1, 2, none⟩ = some (.slice none 0 0) ∧ w2.cell? ⟨w.heap.size + 1, 3, none⟩ = some (.string ByteArray.empty) ∧ w2.cell? ⟨w.heap.size + 1, 4, none⟩ = some (.slice none 0 0) ∧
    (∀ j, w2.frozen? ⟨w.heap.size, j, none⟩ = false) ∧ (∀ j, w2.frozen? ⟨w.heap.size + 1, j, none⟩ = false) ∧ w.heap.size + 1 + 1 + 1 ≤ w2.heap.size := by
  have hc : ∀ b o, b < w.heap.size + 1 + 1 → w2.cell? ⟨b, o, none⟩ = _ := fun b o h => hK.cell (p := ⟨b, o, none⟩) (by simp; omega) (by simp; omega)
  have hf : ∀ b o, b < w.heap.size + 1 + 1 → w2.frozen? ⟨b, o, none⟩ = _ := fun b o h => hK.frozen (p := ⟨b, o, none⟩) (by simp; omega) (by simp; omega)
  have hz := hK.size
  simp only [World.size_alloc] at hz
  refine ⟨?_, ?_, ?_, ?_, ?_, ?_, ?_, ?_, ?_, ?_, fun j => ?_, fun j => ?_, hz⟩
  all_goals first | (rw [hc _ _ (by omega)]; first | (simp [go_sem]; done) | (simp [go_sem]; rfl)) | (rw [hf _ _ (by omega)]; simp [go_sem])

set_option maxHeartbeats 1000000 in
set_option maxRecDepth 100000 in
theorem own_any (g n v : ByteArray) (aa : Option Addr) (na ca : Nat) (ao : Option Addr) (cap : Nat) (l : List Par) (w : World) (hl : SlAt rPar (· < w.heap.size) w ao l) (hcap : ao = none → cap = 0) (hlen : l.length ≤ 100000) :
    Calls Try.prog 8 #[propV g n ao l.length cap v aa na ca] w (PropPost g n l v aa na ca w) := by
  unfold propV
  have hA : Below w.heap.size w ((w.alloc (propC g n ao l.length cap v aa na ca)).alloc prop0) := ((Below.refl _ _).alloc (Nat.le_refl _) _).alloc (by simp) _
  have hA2 := hA.alloc (by simp; omega) (.cells #[] 42)
  obtain ⟨i0, hi, hz0, hz1, hz2⟩ := par_info0
  have HI := Lib.hid hi; have HZ0 := Lib.hid hz0; have HZ1 := Lib.hid hz1; have HZ2 := Lib.hid hz2
  have HC := Lib.hid hcap
  clear hi hz0 hz1 hz2 hcap
  go_enter Try.func8, Try.ntmps8
  go_wp2_with (first
    | (at_builtin; refine wpList_pushAll rPar rfl _ _ 22 rfl (w.heap.size + 1 + 1) 42 i0 _ 32 Try.underlying22 HI.out HZ0.out HZ1.out HZ2.out rfl (by decide) (fun _ => True) (.slice (some ⟨w.heap.size + 1 + 1, 0, none⟩) 0 0) [] rfl (own_made2 _ _ _ _ _ _ (by simp) (by simp)) _ cap l rfl HC.out ((hl.old hA2).apart (fun k hk => by cases hk; simp; omega)) par_one (by unfold maxLen; simp; omega) (by simp; omega) (by simp) ?_; intro v2 w2 hO2 hK2 hw2; rw [List.nil_append] at hO2; obtain ⟨ao2, cap2, rfl⟩ := hO2.form; clear hw2; have hK : Kept (· = w.heap.size + 1 + 1) (((w.alloc (propC g n ao l.length cap v aa na ca)).alloc prop0).alloc (.cells #[] 42)) w2 := hK2.wide (fun k _ h => by cases h; rfl); clear hK2; obtain ⟨x0, x1, x2, x3, x4, y0, y1, y2, y3, y4, f0, f1, hz⟩ := own_facts hK))
  have hB := hA2.trans (hK.below (by simp; omega) (fun k h => by omega))
  refine bodyPost_ret (v := propV g n ao2 l.length cap2 v aa na ca) (by simp [propV, results, Try.results8, go_sem, y0, y1, y2, y3, y4]) rfl ?_
  refine propPost_of hO2 hB (by omega) ?_
  ((repeat (with_reducible refine Kept.set ?_ (by first | omega | (constructor <;> (first | omega | (simp; omega) | (simp; done))) | (simp; omega) | (simp; done)))); with_reducible exact Kept.refl _ _)
end Go.Proofs.Ytioeobkneikgfaa
