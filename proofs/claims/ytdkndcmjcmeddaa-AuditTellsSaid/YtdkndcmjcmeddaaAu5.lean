/- mate. -/
import Derived.Test.YtdkndcmjcmeddaaAu4
import Derived.RangeFuncRecord
import Derived.Laws.ResultCell
import Derived.Laws.NewBlocks
namespace Go.Proofs.Ytdkndcmjcmeddaa
open Go.RowKit Lift
set_option linter.unusedSimpArgs false
set_option linter.unusedVariables false



def zRec : Rec := (0, false, 0, ByteArray.empty, 0, 0, ByteArray.empty, 0, ByteArray.empty)
/-- Is a record the live one of a number? -/
def isMate (n : Int) (c : Rec) : Bool := c.2.1 && decide (c.2.2.2.2.1 = n)
def mateL (l : List Rec) (n : Int) : Option Rec := l.find? (isMate n)
theorem idx_find {α : Type} (p : α → Bool) : ∀ (l : List α) (k : Nat), (idx p k l = -1 ∧ l.find? p = none) ∨ ∃ j, j < l.length ∧ idx p k l = (k : Int) + j ∧ ∃ c, l[j]? = some c ∧ l.find? p = some c
  | [], k => Or.inl ⟨rfl, rfl⟩
  | c :: r, k => by
    cases hp : p c with
    | true => exact Or.inr ⟨0, by simp, by simp [idx, hp], c, by simp, by simp [hp]⟩
    | false =>
      rcases idx_find p r (k + 1) with ⟨h1, h2⟩ | ⟨j, hj, h1, d, h2, h3⟩
      · exact Or.inl ⟨by simp [idx, hp, h1], by simp [hp, h2]⟩
      · exact Or.inr ⟨j + 1, by simp; omega, by simp [idx, hp, h1]; omega, d, by simpa using h2, by simp [hp, h3]⟩
set_option maxHeartbeats 1000000 in
set_option maxRecDepth 100000 in
theorem mate1 (a : Nat) (n : Int) (B : Nat) (W : World) (ha : a < B) (hB : B ≤ W.heap.size) (hc : W.cell? ⟨a, 0, none⟩ = some (.int .i64 n)) : PredOf okRec encRec 35 [.pointer (some ⟨a, 0, none⟩)] (isMate n) B W := by
  refine ⟨fun args w => by kernel_rfl, fun w c hok hb => ?_⟩
  have hcw := (hb.cell (p := ⟨a, 0, none⟩) ha).trans hc
  have hlt : a < w.heap.size := by have := hb.size; omega
  clear hb hc
  show Calls Try.prog 35 #[encRec c, .pointer (some ⟨a, 0, none⟩)] w _
  unfold encRec isMate
  cases hv : c.2.1 with
  | true =>
    go_enter Try.func35, Try.ntmps35
    go_wp2_with fail
    go_ret
    exact ⟨ret_bool (by rw [Bool.eq_iff_iff]; simp), (Below.refl _ _).alloc (Nat.le_refl _) _⟩
  | false =>
    go_enter Try.func35, Try.ntmps35
    go_wp2_with fail
    go_ret
    exact ⟨ret_bool (by simp), (Below.refl _ _).alloc (Nat.le_refl _) _⟩
theorem new_at (W : World) (o : Obj) (k : Nat) (h : k = W.heap.size) : (W.alloc o).heap[k]? = some o := by subst h; exact World.alloc_heap_new W o
theorem cell_of {W : World} {b k : Nat} {cs : Array Value} {e : TypeId} {v : Value} (h : W.heap[b]? = some (.cells cs e (0, 0))) (hk : cs[k]? = some v) : W.cell? ⟨b, k, none⟩ = some v := by simp [World.cell?, h, hk]
theorem free_of {W : World} {b k : Nat} {cs : Array Value} {e : TypeId} (h : W.heap[b]? = some (.cells cs e (0, 0))) : W.frozen? ⟨b, k, none⟩ = false := by simp [World.frozen?, h]
def MatePost (o : Option Rec) (w : World) (e : Ending) (w' : World) : Prop := e = .returned (.tuple #[encRec (o.getD zRec), .bool o.isSome]) ∧ Below w.heap.size w w'
set_option maxHeartbeats 4000000 in
set_option maxRecDepth 100000 in
theorem mate_any (s : Sd) (x : Ent) (w : World) (hs : SdOk w.heap.size w s) : Calls Try.prog 13 #[sdV s, encEnt x] w (MatePost (mateL s.r x.1) w) := by
  have hri := rec_info
  obtain ⟨o, ho⟩ : ∃ o, mateL s.r x.1 = o := ⟨_, rfl⟩
  rw [ho]
  have HO := Lib.hid ho
  clear ho
  unfold sdV encEnt
  go_enter Try.func13, Try.ntmps13
  go_wp2_with fail
  refine (index_rec1 s.ra s.rc s.r 35 (.pointer (some ⟨w.heap.size + 1, 0, none⟩)) (isMate x.1) _ ((hs.old (((((Below.refl _ _).alloc (Nat.le_refl _) _).alloc (by simp) _).alloc (by simp; omega) _))).r.here) (by have := hs.rl; omega) (mate1 _ x.1 _ _ (by simp) (Nat.le_refl _) (by simp [go_sem]))).mono ?_
  rintro e w3 ⟨rfl, hb3⟩
  have hb : Below w.heap.size w w3 := chain ((((Below.refl _ _).alloc (Nat.le_refl _) _).alloc (by simp) _).alloc (by simp; omega) _) hb3
  have hsz : w.heap.size + 3 ≤ w3.heap.size := by have := hb3.size; simp only [World.size_alloc] at this; omega
  simp only [World.size_alloc] at hb3
  have z3 := (hb3.cell (p := ⟨w.heap.size, 3, none⟩) (by simp; omega)).trans (by simp [go_sem] : _ = some (.slice s.ra s.r.length s.rc))
  have zz := (hb3.block (w.heap.size + 1 + 1) (by omega)).trans (new_at _ _ _ (by simp) : _ = some (.cells #[.int .i64 0, .bool false, .int .i64 0, .string ByteArray.empty, .int .i64 0, .int .i64 0, .string ByteArray.empty, .int .i64 0, .string ByteArray.empty] 39 (0, 0)))
  have k0 := cell_of zz (k := 0) (v := (.int .i64 0)) rfl
  have q0 : w3.frozen? ⟨w.heap.size + 1 + 1, 0, none⟩ = false := free_of zz
  have k1 := cell_of zz (k := 1) (v := (.bool false)) rfl
  have q1 : w3.frozen? ⟨w.heap.size + 1 + 1, 1, none⟩ = false := free_of zz
  have k2 := cell_of zz (k := 2) (v := (.int .i64 0)) rfl
  have q2 : w3.frozen? ⟨w.heap.size + 1 + 1, 2, none⟩ = false := free_of zz
  have k3 := cell_of zz (k := 3) (v := (.string ByteArray.empty)) rfl
  have q3 : w3.frozen? ⟨w.heap.size + 1 + 1, 3, none⟩ = false := free_of zz
  have k4 := cell_of zz (k := 4) (v := (.int .i64 0)) rfl
  have q4 : w3.frozen? ⟨w.heap.size + 1 + 1, 4, none⟩ = false := free_of zz
  have k5 := cell_of zz (k := 5) (v := (.int .i64 0)) rfl
  have q5 : w3.frozen? ⟨w.heap.size + 1 + 1, 5, none⟩ = false := free_of zz
  have k6 := cell_of zz (k := 6) (v := (.string ByteArray.empty)) rfl
  have q6 : w3.frozen? ⟨w.heap.size + 1 + 1, 6, none⟩ = false := free_of zz
  have k7 := cell_of zz (k := 7) (v := (.int .i64 0)) rfl
  have q7 : w3.frozen? ⟨w.heap.size + 1 + 1, 7, none⟩ = false := free_of zz
  have k8 := cell_of zz (k := 8) (v := (.string ByteArray.empty)) rfl
  have q8 : w3.frozen? ⟨w.heap.size + 1 + 1, 8, none⟩ = false := free_of zz
  have hl3 := (hs.old hb).r
  clear zz
  have hlen := hs.rl
  clear hb3 hs hri
  have HB := Lib.hid hb
  rcases idx_find (isMate x.1) s.r 0 with ⟨h1, h2⟩ | ⟨j, hj, h1, c, hcl, h2⟩
  · have H2 := Lib.hid h2
    simp only [h1]
    clear hb hl3 h2 h1
    go_wp2_with fail
    refine bodyPost_ret_by (by rw [results_cell_tmp rfl]; go_simp; rfl) rfl ?_
    refine ⟨by rw [← HO.out, mateL, H2.out]; rfl, ?_⟩
    repeat (refine Below.setCell ?_ (by simp; omega) _)
    exact HB.out
  · have H2 := Lib.hid h2
    simp only [h1, Int.natCast_zero, Int.zero_add]
    obtain ⟨bb, oo, hao, hs1, hb1, hok, x0, x1, x2, x3, x4, x5, x6, x7, x8⟩ := rec_get hl3 hcl
    have hjl : (j : Int) < (s.r.length : Int) := by omega
    have hjm : j ≤ 1000 := by omega
    clear hb hl3 h2 h1 hok
    rw [hao] at z3 ⊢
    clear hao
    go_wp2_with fail
    refine bodyPost_ret_by (by rw [results_cell_tmp rfl]; go_simp; rfl) rfl ?_
    refine ⟨by rw [← HO.out, mateL, H2.out]; rfl, ?_⟩
    repeat (refine Below.setCell ?_ (by simp; omega) _)
    exact HB.out
end Go.Proofs.Ytdkndcmjcmeddaa
