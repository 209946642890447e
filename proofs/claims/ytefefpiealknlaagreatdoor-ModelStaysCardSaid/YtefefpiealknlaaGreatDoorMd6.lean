/- What the slow reckoning asks of a record: the program's. -/
import Derived.Test.YtefefpiealknlaaGreatDoorMd5
namespace Go.Proofs.YtefefpiealknlaaGreatDoor
open Go.RowKit Lift
set_option linter.unusedSimpArgs false
set_option linter.unusedVariables false

theorem int_get {S : Nat → Prop} {w : World} {ao : Option Addr} {l : List Int} (h : SlAt (Rd.int .i64) S w ao l) {k : Nat} {c : Int} (hk : l[k]? = some c) : ∃ b off, ao = some ⟨b, off, none⟩ ∧ S b ∧ b < w.heap.size ∧ Wf c ∧ w.cell? ⟨b, off + k, none⟩ = some (.int .i64 c) := by
  obtain ⟨b, off, cs, rfl, hs, hlt, ⟨rfl, h1⟩, hc⟩ := h.get hk
  exact ⟨b, off, rfl, hs, hlt, h1, by have := hc 0 _ rfl; simpa [Rd.int] using this⟩
theorem idx_nil {α : Type} (p : α → Bool) (k : Nat) : idx p k [] = -1 := rfl
set_option maxHeartbeats 1000000 in
set_option maxRecDepth 100000 in
theorem index_int (ao : Option Addr) (cap : Nat) (l : List Int) (n : Int) (w : World) (hl : SlAt (Rd.int .i64) (· < w.heap.size) w ao l) (hlen : l.length ≤ 100000) :
    Calls Tryz.prog 55 #[.slice ao l.length cap, .int .i64 n] w (BelowPost (.int .i64 (idx (fun c => decide (c = n)) 0 l)) w) := by
  go_enter Tryz.func55, Tryz.ntmps55
  go_wp2_with fail
  go_loopw [8] (fun v8 wr => ∃ k : Nat, k ≤ l.length ∧ v8 = .int .i64 k ∧ wr = w ∧ Hid (idx (fun c => decide (c = n)) 0 l = idx (fun c => decide (c = n)) k (l.drop k))) (fun v8 _ => l.length - (intOf v8).toNat)
  case atStart => exact ⟨0, by omega, rfl, rfl, Lib.hid rfl⟩
  case round =>
    obtain ⟨k, hk, rfl, rfl, hix⟩ := hrel
    by_cases hkl : k < l.length
    · obtain ⟨c, hcl⟩ := some_at hkl
      obtain ⟨bb, oo, rfl, hs1, hb1, hok, x0⟩ := int_get hl hcl
      have hkl2 : (k : Int) < (l.length : Int) := by omega
      have hlim : k ≤ 100000 := by omega
      have hi2 := hix.out
      rw [drop_at2 hcl, idx] at hi2
      by_cases hc : c = n
      · rw [if_pos (by simpa using hc)] at hi2
        have HI := Lib.hid hi2
        subst hc
        clear hi2 hcl
        go_wp2_with fail
        go_ret
        exact ⟨by rw [HI.out]; rfl, Below.refl _ _⟩
      · rw [if_neg (by simpa using hc)] at hi2
        have HI := Lib.hid hi2
        have hd : (n == c) = false := by simp; exact fun e => hc e.symm
        clear hi2 hcl hc
        go_wp2_with fail
        go_roundw
        case measure => simp [intOf]; omega
        case rel => exact ⟨k + 1, by omega, by go_num, by first | rfl | trivial, HI⟩
    · obtain rfl : k = l.length := by omega
      have hi2 := hix.out
      rw [List.drop_length, idx_nil] at hi2
      have HI := Lib.hid hi2
      clear hi2
      go_wp2_with fail
      go_ret
      exact ⟨by rw [HI.out]; rfl, Below.refl _ _⟩
set_option maxHeartbeats 1000000 in
set_option maxRecDepth 100000 in
theorem contains_int (ao : Option Addr) (cap : Nat) (l : List Int) (n : Int) (w : World) (hl : SlAt (Rd.int .i64) (· < w.heap.size) w ao l) (hlen : l.length ≤ 100000) :
    Calls Tryz.prog 31 #[.slice ao l.length cap, .int .i64 n] w (BelowPost (.bool (l.any (fun c => decide (c = n)))) w) := by
  have HC := Lib.hid (index_int ao cap l n w hl hlen)
  have HI := Lib.hid (idx_any (fun c => decide (c = n)) l 0)
  go_enter Tryz.func31, Tryz.ntmps31
  go_wp2_with fail
  refine HC.out.mono ?_
  rintro e w3 ⟨rfl, hb3⟩
  go_wp2_with fail
  go_ret
  exact ⟨ret_bool (by simpa using HI.out), hb3⟩
/-- Whether a record's number was not told. -/
def lostB (ts : List Int) (c : Rec) : Bool := decide (0 < c.2.2.2.2.1) && !(ts.any (fun x => decide (x = c.2.2.2.2.1)))
set_option maxHeartbeats 1000000 in
set_option maxRecDepth 100000 in
theorem lost_any (bt : Nat) (ao : Option Addr) (cap : Nat) (ts : List Int) (c : Rec) (hok : okRec c) (w : World) (hc : w.cell? ⟨bt, 0, none⟩ = some (.slice ao ts.length cap)) (hbt : bt < w.heap.size) (hl : SlAt (Rd.int .i64) (· < w.heap.size) w ao ts) (hlen : ts.length ≤ 100000) :
    Calls Tryz.prog 30 #[encRec c, .pointer (some ⟨bt, 0, none⟩)] w (BelowPost (.bool (lostB ts c)) w) := by
  have hba : Below w.heap.size w (w.alloc (.cells #[.int .i64 c.1, .bool c.2.1, .int .i64 c.2.2.1, .string c.2.2.2.1, .int .i64 c.2.2.2.2.1, .int .i64 c.2.2.2.2.2.1, .string c.2.2.2.2.2.2.1, .int .i64 c.2.2.2.2.2.2.2.1, .string c.2.2.2.2.2.2.2.2] 32)) := (Below.refl _ _).alloc (Nat.le_refl _) _
  have HC := Lib.hid (contains_int ao cap ts c.2.2.2.2.1 (w.alloc (.cells #[.int .i64 c.1, .bool c.2.1, .int .i64 c.2.2.1, .string c.2.2.2.1, .int .i64 c.2.2.2.2.1, .int .i64 c.2.2.2.2.2.1, .string c.2.2.2.2.2.2.1, .int .i64 c.2.2.2.2.2.2.2.1, .string c.2.2.2.2.2.2.2.2] 32)) (hl.old hba).here hlen)
  unfold lostB encRec
  obtain ⟨A, hA⟩ : ∃ A, ts.any (fun x => decide (x = c.2.2.2.2.1)) = A := ⟨_, rfl⟩
  rw [hA] at HC ⊢
  clear hA hl hok
  by_cases h1 : 0 < c.2.2.2.2.1
  · have hd : decide (0 < c.2.2.2.2.1) = true := by simpa using h1
    rw [hd, Bool.true_and]
    clear h1
    go_enter Tryz.func30, Tryz.ntmps30
    go_wp2_with fail
    refine HC.out.mono ?_
    rintro e w3 ⟨rfl, hb3⟩
    go_wp2_with fail
    go_ret
    exact ⟨rfl, chain hba hb3⟩
  · have hd : decide (0 < c.2.2.2.2.1) = false := by simpa using h1
    rw [hd, Bool.false_and]
    clear h1
    go_enter Tryz.func30, Tryz.ntmps30
    go_wp2_with fail
    go_ret
    exact ⟨rfl, hba⟩
theorem lost_enters (args : Array Value) (w : World) : (callFunc 30 args).run Tryz.prog w = .ok (.enter 30 args) w := by kernel_rfl
def goneB (ts : List Int) (c : Rec) : Bool := !c.2.1 && lostB ts c
set_option maxHeartbeats 1000000 in
set_option maxRecDepth 100000 in
theorem isGone (bf bt : Nat) (ao : Option Addr) (cap : Nat) (ts : List Int) (B : Nat) (W : World) (hf : W.cell? ⟨bf, 0, none⟩ = some (.func (.func 30) #[] #[.pointer (some ⟨bt, 0, none⟩)])) (hc : W.cell? ⟨bt, 0, none⟩ = some (.slice ao ts.length cap)) (hbf : bf < B) (hbt : bt < B) (hB : B ≤ W.heap.size) (hl : SlAt (Rd.int .i64) (· < B) W ao ts) (hlen : ts.length ≤ 100000) :
    PredOf okRec encRec 33 [.pointer (some ⟨bf, 0, none⟩)] (goneB ts) B W := by
  refine ⟨fun args w => by kernel_rfl, fun w c hok hb => ?_⟩
  have hcf := (hb.cell (p := ⟨bf, 0, none⟩) hbf).trans hf
  have hct := (hb.cell (p := ⟨bt, 0, none⟩) hbt).trans hc
  have hz := hb.size
  have hltf : bf < w.heap.size := by omega
  have hltt : bt < w.heap.size := by omega
  have hlw := hl.old hb
  show Calls Tryz.prog 33 #[encRec c, .pointer (some ⟨bf, 0, none⟩)] w _
  have hba : Below w.heap.size w (w.alloc (.cells #[.int .i64 c.1, .bool c.2.1, .int .i64 c.2.2.1, .string c.2.2.2.1, .int .i64 c.2.2.2.2.1, .int .i64 c.2.2.2.2.2.1, .string c.2.2.2.2.2.2.1, .int .i64 c.2.2.2.2.2.2.2.1, .string c.2.2.2.2.2.2.2.2] 32)) := (Below.refl _ _).alloc (Nat.le_refl _) _
  have HC := Lib.hid (lost_any bt ao cap ts c hok (w.alloc (.cells #[.int .i64 c.1, .bool c.2.1, .int .i64 c.2.2.1, .string c.2.2.2.1, .int .i64 c.2.2.2.2.1, .int .i64 c.2.2.2.2.2.1, .string c.2.2.2.2.2.2.1, .int .i64 c.2.2.2.2.2.2.2.1, .string c.2.2.2.2.2.2.2.2] 32)) ((hba.cell (p := ⟨bt, 0, none⟩) hltt).trans hct) (by have := hba.size; omega) ((hlw.mono (fun b h _ => Nat.lt_of_lt_of_le h (by omega))).old hba).here hlen)
  have hen := lost_enters
  unfold goneB
  unfold encRec at HC ⊢
  obtain ⟨A, hA⟩ : ∃ A, lostB ts c = A := ⟨_, rfl⟩
  rw [hA] at HC ⊢
  clear hA hl hlw hok hb hf hc hct
  cases hlv : c.2.1 with
  | true =>
    rw [hlv] at HC hba
    rw [Bool.not_true, Bool.false_and]
    go_enter Tryz.func33, Tryz.ntmps33
    go_wp2_with fail
    go_ret
    exact ⟨rfl, hba⟩
  | false =>
    rw [hlv] at HC hba
    rw [Bool.not_false, Bool.true_and]
    go_enter Tryz.func33, Tryz.ntmps33
    go_wp2_with fail
    refine HC.out.mono ?_
    rintro e w3 ⟨rfl, hb3⟩
    go_wp2_with fail
    go_ret
    exact ⟨rfl, chain hba hb3⟩
/-- Nothing is deleted where the predicate holds of none. -/
theorem idx_no {α : Type} (p : α → Bool) : ∀ (l : List α) (k : Nat), (∀ c ∈ l, p c = false) → idx p k l = -1
  | [], _, _ => rfl
  | c :: r, k, h => by
    rw [idx, if_neg (by rw [h c (by simp)]; simp)]
    exact idx_no p r (k + 1) (fun d hd => h d (List.mem_cons_of_mem _ hd))
set_option maxHeartbeats 1000000 in
set_option maxRecDepth 100000 in
theorem delete_none (ao : Option Addr) (cap : Nat) (l : List Rec) (g : FuncId) (b1 : Value) (p : Rec → Bool) (w : World) (hl : SlAt rRec (· < w.heap.size) w ao l) (hlen : l.length ≤ 100000) (hp : PredOf okRec encRec g [b1] p w.heap.size w) (hno : ∀ c ∈ l, p c = false) :
    Calls Tryz.prog 32 #[.slice ao l.length cap, .func (.func g) #[] #[b1]] w (BelowPost (.slice ao l.length cap) w) := by
  have HX := Lib.hid (index_rec1 ao cap l g b1 p w hl hlen hp)
  rw [idx_no p l 0 hno] at HX
  clear hp hno hl
  go_enter Tryz.func32, Tryz.ntmps32
  go_wp2_with fail
  refine HX.out.mono ?_
  rintro e w3 ⟨rfl, hb3⟩
  go_wp2_with fail
  go_ret
  exact ⟨rfl, hb3⟩
end Go.Proofs.YtefefpiealknlaaGreatDoor
