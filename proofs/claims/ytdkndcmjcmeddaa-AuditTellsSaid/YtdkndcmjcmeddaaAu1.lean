/- Numbers that rise; who is who's. -/
import Derived.Test.YtdkndcmjcmeddaaAuCont
namespace Go.Proofs.Ytdkndcmjcmeddaa
open Go.RowKit Lift
set_option linter.unusedSimpArgs false
set_option linter.unusedVariables false




/-- Do they rise, each above the last? -/
def risL : Int → List Int → Bool
  | _, [] => true
  | last, n :: r => if n ≤ last then false else risL n r
/-- What a function that tells a number does. -/
structure NumOf {α : Type} (ok : α → Prop) (enc : α → Value) (g : FuncId) (num : α → Int) (W : World) : Prop where
  enters : ∀ (args : Array Value) (w : World), (callFunc g args).run Try.prog w = .ok (.enter g args) w
  calls : ∀ (w : World) (c : α), ok c → Below W.heap.size W w → Calls Try.prog g #[enc c] w (BelowPost (.int .i64 (num c)) w)

set_option maxHeartbeats 1000000 in
set_option maxRecDepth 100000 in
theorem rising_ent (ao : Option Addr) (cap : Nat) (l : List Ent) (g : FuncId) (num : Ent → Int) (w : World) (hl : SlAt rEnt (· < w.heap.size) w ao l) (hlen : l.length ≤ 100000) (hp : NumOf okEnt encEnt g num w) :
    Calls Try.prog 15 #[.slice ao l.length cap, .func (.func g) #[] #[]] w (BelowPost (.bool (risL 0 (l.map num))) w) := by
  have HP := Lib.hid hp.calls
  have hen := hp.enters
  clear hp
  go_enter Try.func15, Try.ntmps15
  go_wp2_with fail
  go_loopw [5, 11] (fun v5 v11 wr => ∃ (k : Nat) (last : Int), k ≤ l.length ∧ v5 = .int .i64 last ∧ v11 = .int .i64 k ∧ Hid (risL 0 (l.map num) = risL last ((l.drop k).map num)) ∧ Below w.heap.size w wr) (fun _ v11 _ => l.length - (intOf v11).toNat)
  case atStart => exact ⟨0, 0, by omega, rfl, rfl, Lib.hid rfl, Below.refl _ _⟩
  case round =>
    obtain ⟨k, last, hk, rfl, rfl, hix, hb⟩ := hrel
    by_cases hkl : k < l.length
    · obtain ⟨c, hcl⟩ := some_at hkl
      obtain ⟨bb, oo, rfl, hs1, hb1, hok, x0, x1, x2, x3⟩ := ent_get (hl.old hb) hcl
      have hkl2 : (k : Int) < (l.length : Int) := by omega
      have hlim : k ≤ 100000 := by omega
      have hi2 := hix.out
      rw [drop_at2 hcl, List.map_cons, risL] at hi2
      have hba : Below w.heap.size w (wr.alloc (.cells (cellsEnt c).toArray 37)) := hb.alloc hb.size _
      have HC := Lib.hid (HP.out _ c hok hba)
      by_cases hle : num c ≤ last
      · rw [if_pos hle] at hi2
        have hd : decide (num c ≤ last) = true := by simpa using hle
        have HI := Lib.hid hi2
        clear hi2 hle
        generalize num c = nc at *
        go_wp2_with fail
        refine HC.out.mono ?_
        rintro e w3 ⟨rfl, hb3⟩
        go_wp2_with fail
        go_ret
        exact ⟨by rw [HI.out]; rfl, chain hba hb3⟩
      · rw [if_neg hle] at hi2
        have hd : decide (num c ≤ last) = false := by simpa using hle
        have HI := Lib.hid hi2
        clear hi2 hle
        generalize num c = nc at *
        go_wp2_with fail
        refine HC.out.mono ?_
        rintro e w3 ⟨rfl, hb3⟩
        go_wp2_with fail
        go_roundw
        case measure => simp [intOf]; omega
        case rel => exact ⟨k + 1, nc, by omega, rfl, by go_num, HI, chain hba hb3⟩
    · obtain rfl : k = l.length := by omega
      have hi2 := hix.out
      rw [List.drop_length, List.map_nil, risL] at hi2
      have HI := Lib.hid hi2
      clear hi2
      go_wp2_with fail
      go_ret
      exact ⟨by rw [HI.out]; rfl, hb⟩


set_option maxHeartbeats 1000000 in
set_option maxRecDepth 100000 in
theorem rising_pai (ao : Option Addr) (cap : Nat) (l : List Pai) (g : FuncId) (num : Pai → Int) (w : World) (hl : SlAt rPai (· < w.heap.size) w ao l) (hlen : l.length ≤ 100000) (hp : NumOf okPai encPai g num w) :
    Calls Try.prog 17 #[.slice ao l.length cap, .func (.func g) #[] #[]] w (BelowPost (.bool (risL 0 (l.map num))) w) := by
  have HP := Lib.hid hp.calls
  have hen := hp.enters
  clear hp
  go_enter Try.func17, Try.ntmps17
  go_wp2_with fail
  go_loopw [5, 11] (fun v5 v11 wr => ∃ (k : Nat) (last : Int), k ≤ l.length ∧ v5 = .int .i64 last ∧ v11 = .int .i64 k ∧ Hid (risL 0 (l.map num) = risL last ((l.drop k).map num)) ∧ Below w.heap.size w wr) (fun _ v11 _ => l.length - (intOf v11).toNat)
  case atStart => exact ⟨0, 0, by omega, rfl, rfl, Lib.hid rfl, Below.refl _ _⟩
  case round =>
    obtain ⟨k, last, hk, rfl, rfl, hix, hb⟩ := hrel
    by_cases hkl : k < l.length
    · obtain ⟨c, hcl⟩ := some_at hkl
      obtain ⟨bb, oo, rfl, hs1, hb1, hok, x0, x1, x2⟩ := pai_get (hl.old hb) hcl
      have hkl2 : (k : Int) < (l.length : Int) := by omega
      have hlim : k ≤ 100000 := by omega
      have hi2 := hix.out
      rw [drop_at2 hcl, List.map_cons, risL] at hi2
      have hba : Below w.heap.size w (wr.alloc (.cells (cellsPai c).toArray 48)) := hb.alloc hb.size _
      have HC := Lib.hid (HP.out _ c hok hba)
      by_cases hle : num c ≤ last
      · rw [if_pos hle] at hi2
        have hd : decide (num c ≤ last) = true := by simpa using hle
        have HI := Lib.hid hi2
        clear hi2 hle
        generalize num c = nc at *
        go_wp2_with fail
        refine HC.out.mono ?_
        rintro e w3 ⟨rfl, hb3⟩
        go_wp2_with fail
        go_ret
        exact ⟨by rw [HI.out]; rfl, chain hba hb3⟩
      · rw [if_neg hle] at hi2
        have hd : decide (num c ≤ last) = false := by simpa using hle
        have HI := Lib.hid hi2
        clear hi2 hle
        generalize num c = nc at *
        go_wp2_with fail
        refine HC.out.mono ?_
        rintro e w3 ⟨rfl, hb3⟩
        go_wp2_with fail
        go_roundw
        case measure => simp [intOf]; omega
        case rel => exact ⟨k + 1, nc, by omega, rfl, by go_num, HI, chain hba hb3⟩
    · obtain rfl : k = l.length := by omega
      have hi2 := hix.out
      rw [List.drop_length, List.map_nil, risL] at hi2
      have HI := Lib.hid hi2
      clear hi2
      go_wp2_with fail
      go_ret
      exact ⟨by rw [HI.out]; rfl, hb⟩


set_option maxHeartbeats 1000000 in
set_option maxRecDepth 100000 in
theorem rising_rec (ao : Option Addr) (cap : Nat) (l : List Rec) (g : FuncId) (num : Rec → Int) (w : World) (hl : SlAt rRec (· < w.heap.size) w ao l) (hlen : l.length ≤ 100000) (hp : NumOf okRec encRec g num w) :
    Calls Try.prog 19 #[.slice ao l.length cap, .func (.func g) #[] #[]] w (BelowPost (.bool (risL 0 (l.map num))) w) := by
  have HP := Lib.hid hp.calls
  have hen := hp.enters
  clear hp
  go_enter Try.func19, Try.ntmps19
  go_wp2_with fail
  go_loopw [5, 11] (fun v5 v11 wr => ∃ (k : Nat) (last : Int), k ≤ l.length ∧ v5 = .int .i64 last ∧ v11 = .int .i64 k ∧ Hid (risL 0 (l.map num) = risL last ((l.drop k).map num)) ∧ Below w.heap.size w wr) (fun _ v11 _ => l.length - (intOf v11).toNat)
  case atStart => exact ⟨0, 0, by omega, rfl, rfl, Lib.hid rfl, Below.refl _ _⟩
  case round =>
    obtain ⟨k, last, hk, rfl, rfl, hix, hb⟩ := hrel
    by_cases hkl : k < l.length
    · obtain ⟨c, hcl⟩ := some_at hkl
      obtain ⟨bb, oo, rfl, hs1, hb1, hok, x0, x1, x2, x3, x4, x5, x6, x7, x8⟩ := rec_get (hl.old hb) hcl
      have hkl2 : (k : Int) < (l.length : Int) := by omega
      have hlim : k ≤ 100000 := by omega
      have hi2 := hix.out
      rw [drop_at2 hcl, List.map_cons, risL] at hi2
      have hba : Below w.heap.size w (wr.alloc (.cells (cellsRec c).toArray 39)) := hb.alloc hb.size _
      have HC := Lib.hid (HP.out _ c hok hba)
      by_cases hle : num c ≤ last
      · rw [if_pos hle] at hi2
        have hd : decide (num c ≤ last) = true := by simpa using hle
        have HI := Lib.hid hi2
        clear hi2 hle
        generalize num c = nc at *
        go_wp2_with fail
        refine HC.out.mono ?_
        rintro e w3 ⟨rfl, hb3⟩
        go_wp2_with fail
        go_ret
        exact ⟨by rw [HI.out]; rfl, chain hba hb3⟩
      · rw [if_neg hle] at hi2
        have hd : decide (num c ≤ last) = false := by simpa using hle
        have HI := Lib.hid hi2
        clear hi2 hle
        generalize num c = nc at *
        go_wp2_with fail
        refine HC.out.mono ?_
        rintro e w3 ⟨rfl, hb3⟩
        go_wp2_with fail
        go_roundw
        case measure => simp [intOf]; omega
        case rel => exact ⟨k + 1, nc, by omega, rfl, by go_num, HI, chain hba hb3⟩
    · obtain rfl : k = l.length := by omega
      have hi2 := hix.out
      rw [List.drop_length, List.map_nil, risL] at hi2
      have HI := Lib.hid hi2
      clear hi2
      go_wp2_with fail
      go_ret
      exact ⟨by rw [HI.out]; rfl, hb⟩

set_option maxHeartbeats 1000000 in
set_option maxRecDepth 100000 in
theorem num_ent (W : World) : NumOf okEnt encEnt 16 (fun c => c.1) W := by
  refine ⟨fun args w => by kernel_rfl, fun w c hok hb => ?_⟩
  clear hb
  unfold encEnt
  go_enter Try.func16, Try.ntmps16
  go_wp2_with fail
  go_ret
  exact ⟨rfl, (Below.refl _ _).alloc (Nat.le_refl _) _⟩
set_option maxHeartbeats 1000000 in
set_option maxRecDepth 100000 in
theorem num_pai (W : World) : NumOf okPai encPai 18 (fun c => c.1) W := by
  refine ⟨fun args w => by kernel_rfl, fun w c hok hb => ?_⟩
  clear hb
  unfold encPai
  go_enter Try.func18, Try.ntmps18
  go_wp2_with fail
  go_ret
  exact ⟨rfl, (Below.refl _ _).alloc (Nat.le_refl _) _⟩
set_option maxHeartbeats 1000000 in
set_option maxRecDepth 100000 in
theorem num_rec (W : World) : NumOf okRec encRec 20 (fun c => c.1) W := by
  refine ⟨fun args w => by kernel_rfl, fun w c hok hb => ?_⟩
  clear hb
  unfold encRec
  go_enter Try.func20, Try.ntmps20
  go_wp2_with fail
  go_ret
  exact ⟨rfl, (Below.refl _ _).alloc (Nat.le_refl _) _⟩
end Go.Proofs.Ytdkndcmjcmeddaa
