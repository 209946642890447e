/- Entries, pairs, records: how they are read; the library's IndexFunc and ContainsFunc at them. -/
import Derived.Test.YtefefpiealknlaaGreatDoorRows
import Derived.Handy
import Derived.Lib.Hide
import Derived.BigQuiet
import Derived.WalkSpells
import Derived.WalkLawsBesides
import Derived.Maps.AppendAt
import Derived.Test.YtefefpiealknlaaGreatDoorRd2
namespace Go.Proofs.YtefefpiealknlaaGreatDoor
open Go.RowKit Lift
set_option linter.unusedSimpArgs false
set_option linter.unusedVariables false

theorem take_same {α : Type} {l m : List α} {k : Nat} {c d : α} (h : l.take k = m.take k) (hl : l[k]? = some c) (hm : m[k]? = some d) (hcd : c = d) : l.take (k + 1) = m.take (k + 1) := by
  obtain ⟨h1, rfl⟩ := List.getElem?_eq_some_iff.1 hl
  obtain ⟨h2, rfl⟩ := List.getElem?_eq_some_iff.1 hm
  rw [List.take_succ_eq_append_getElem h1, List.take_succ_eq_append_getElem h2, h, hcd]
theorem ne_at {α : Type} {l m : List α} {k : Nat} {c d : α} (hl : l[k]? = some c) (hm : m[k]? = some d) (hcd : c ≠ d) : l ≠ m := by
  rintro rfl; rw [hl] at hm; exact hcd (Option.some.inj hm)
/-- The first place from k on at which p holds. -/
def idx {α : Type} (p : α → Bool) : Nat → List α → Int
  | _, [] => -1
  | k, c :: r => if p c then k else idx p (k + 1) r
theorem idx_ge {α : Type} (p : α → Bool) : ∀ (l : List α) (k : Nat), idx p k l = -1 ∨ ((k : Int) ≤ idx p k l ∧ idx p k l < k + l.length)
  | [], k => .inl rfl
  | c :: r, k => by
    rw [idx]
    split
    · right; simp; omega
    · rcases idx_ge p r (k + 1) with h | h
      · exact .inl h
      · right; simp; omega
theorem idx_any {α : Type} (p : α → Bool) : ∀ (l : List α) (k : Nat), decide (0 ≤ idx p k l) = l.any p
  | [], k => by simp [idx]
  | c :: r, k => by
    rw [idx, List.any_cons]
    cases p c
    · simpa using idx_any p r (k + 1)
    · simp
/-- The element at that place, and that it is the first. -/
theorem idx_at {α : Type} (p : α → Bool) : ∀ (l : List α) (k : Nat) (j : Nat), idx p k l = (k : Int) + j → ∃ c, l[j]? = some c ∧ p c = true ∧ ∀ d ∈ l.take j, p d = false
  | [], k, j, h => by simp [idx] at h; omega
  | c :: r, k, j, h => by
    rw [idx] at h
    split at h
    · rename_i hc
      obtain rfl : j = 0 := by omega
      exact ⟨c, rfl, hc, by simp⟩
    · rename_i hc
      match j, h with
      | 0, h => rcases idx_ge p r (k + 1) with h2 | h2 <;> omega
      | j + 1, h =>
        obtain ⟨d, h1, h2, h3⟩ := idx_at p r (k + 1) j (by rw [h]; push_cast; omega)
        refine ⟨d, by simpa using h1, h2, fun x hx => ?_⟩
        rw [List.take_succ_cons, List.mem_cons] at hx
        rcases hx with rfl | hx
        · simpa using hc
        · exact h3 x hx
theorem idx_none {α : Type} (p : α → Bool) : ∀ (l : List α) (k : Nat), idx p k l = -1 → ∀ c ∈ l, p c = false
  | [], k, _ => by simp
  | c :: r, k, h => by
    rw [idx] at h
    split at h
    · omega
    · rename_i hc
      intro x hx
      rcases List.mem_cons.1 hx with rfl | hx
      · simpa using hc
      · exact idx_none p r (k + 1) h x hx
/-- What a predicate that is handed on does, wherever what lies below B is as it was: a bool, all that was there as it was. -/
structure PredOf {α : Type} (ok : α → Prop) (enc : α → Value) (g : FuncId) (bs : List Value) (p : α → Bool) (B : Nat) (W : World) : Prop where
  enters : ∀ (args : Array Value) (w : World), (callFunc g args).run Tryz.prog w = .ok (.enter g args) w
  calls : ∀ (w : World) (c : α), ok c → Below B W w → Calls Tryz.prog g (enc c :: bs).toArray w (BelowPost (.bool (p c)) w)
theorem PredOf.later {α : Type} {ok : α → Prop} {enc : α → Value} {g : FuncId} {bs : List Value} {p : α → Bool} {B : Nat} {W w : World} (h : PredOf ok enc g bs p B W) (hw : Below B W w) (hB : B ≤ w.heap.size) : PredOf ok enc g bs p w.heap.size w :=
  ⟨h.enters, fun w' c hc hb => h.calls w' c hc (hw.trans (hb.mono hB))⟩
theorem filter_none {α : Type} {p : α → Bool} {l : List α} (h : ∀ c ∈ l, p c = false) : (l.filter fun c => !p c) = l := by
  rw [List.filter_eq_self]; intro c hc; rw [h c hc]; rfl
theorem filter_first {α : Type} {p : α → Bool} {l : List α} {i : Nat} {c : α} (hi : l[i]? = some c) (hc : p c = true) (h : ∀ d ∈ l.take i, p d = false) : l.take i = (l.take (i + 1)).filter fun c => !p c := by
  rw [take_at2 hi, List.filter_append, filter_none h]; simp [hc]
theorem set_take {α : Type} {m : List α} {i : Nat} {c : α} (hi : i < m.length) : (m.set i c).take (i + 1) = m.take i ++ [c] := by
  rw [take_at2 (List.getElem?_set_self hi), List.take_set_of_le (Nat.le_refl _)]
theorem drop_get {α : Type} {l m : List α} {j : Nat} (h : m.drop j = l.drop j) : m[j]? = l[j]? := by
  have := congrArg (fun x => x[0]?) h
  simpa using this
/-- What DeleteFunc hands back: the row's beginning; nothing else has turned, but for new blocks. -/
def DelPost {α : Type} (r : Rd α) (e : TypeId) (base g cap : Nat) (l : List α) (w : World) (x : Ending) (w' : World) : Prop := x = .returned (.slice (some ⟨g, 0, none⟩) l.length cap) ∧ Own r (fun _ => True) w' base e (.slice (some ⟨g, 0, none⟩) l.length cap) l ∧ Kept (fun j => j = g) w w'

abbrev Ent := Int × Int × Int × ByteArray
def rEnt : Rd Ent := ((Rd.int .i64)).pair (((Rd.int .i64)).pair (((Rd.int .i64)).pair (Rd.str)))
def okEnt (c : Ent) : Prop := (Lit.int .i64 c.1).wf = true ∧ (Lit.int .i64 c.2.1).wf = true ∧ (Lit.int .i64 c.2.2.1).wf = true ∧ c.2.2.2.size ≤ maxTx
def cellsEnt (c : Ent) : List Value := [.int .i64 c.1, .int .i64 c.2.1, .int .i64 c.2.2.1, .string c.2.2.2]
def encEnt (c : Ent) : Value := .agg #[.int .i64 c.1, .int .i64 c.2.1, .int .i64 c.2.2.1, .string c.2.2.2]
theorem ent_get {S : Nat → Prop} {w : World} {ao : Option Addr} {l : List Ent} (h : SlAt rEnt S w ao l) {k : Nat} {c : Ent} (hk : l[k]? = some c) :
    ∃ b off, ao = some ⟨b, off, none⟩ ∧ S b ∧ b < w.heap.size ∧ okEnt c ∧ w.cell? ⟨b, off + k * 4, none⟩ = some (.int .i64 c.1) ∧ w.cell? ⟨b, off + k * 4 + 1, none⟩ = some (.int .i64 c.2.1) ∧ w.cell? ⟨b, off + k * 4 + 2, none⟩ = some (.int .i64 c.2.2.1) ∧ w.cell? ⟨b, off + k * 4 + 3, none⟩ = some (.string c.2.2.2) := by
  obtain ⟨b, off, cs, rfl, hs, hlt, ⟨c0, d0, rfl, ⟨rfl, h0⟩, ⟨c1, d1, rfl, ⟨rfl, h1⟩, ⟨c2, d2, rfl, ⟨rfl, h2⟩, ⟨rfl, h3⟩⟩⟩⟩, hc⟩ := h.get hk
  exact ⟨b, off, rfl, hs, hlt, ⟨h0, h1, h2, h3⟩, hc 0 _ rfl, hc 1 _ rfl, hc 2 _ rfl, hc 3 _ rfl⟩
theorem ent_rel (S : Nat → Prop) (w : World) (c : Ent) (h : okEnt c) : rEnt.rel S w (cellsEnt c) c := by
  obtain ⟨h0, h1, h2, h3⟩ := h
  exact ⟨[_], _, rfl, ⟨rfl, h0⟩, ⟨[_], _, rfl, ⟨rfl, h1⟩, ⟨[_], _, rfl, ⟨rfl, h2⟩, ⟨rfl, h3⟩⟩⟩⟩
theorem ent_inv {S : Nat → Prop} {w : World} {cs : List Value} {c : Ent} (h : rEnt.rel S w cs c) : cs = cellsEnt c ∧ okEnt c := by
  obtain ⟨c0, d0, rfl, ⟨rfl, h0⟩, ⟨c1, d1, rfl, ⟨rfl, h1⟩, ⟨c2, d2, rfl, ⟨rfl, h2⟩, ⟨rfl, h3⟩⟩⟩⟩ := h
  exact ⟨rfl, ⟨h0, h1, h2, h3⟩⟩
theorem ent_flat : Flat rEnt := by
  intro S S' w w' cs c h
  obtain ⟨rfl, h2⟩ := ent_inv h
  exact ent_rel S' w' c h2
theorem ent_one : ∀ S w cs (c : Ent), rEnt.rel S w cs c → ∀ u ∈ cs, u.oneCell' = true := by
  intro S w cs c h u hu
  obtain ⟨rfl, _⟩ := ent_inv h
  simp [cellsEnt] at hu
  rcases hu with rfl | rfl | rfl | rfl <;> rfl
theorem ent_own {S : Nat → Prop} {w : World} {base : Nat} {e : TypeId} {g n cap : Nat} {l : List Ent} (h : Own rEnt S w base e (.slice (some ⟨g, 0, none⟩) n cap) l) {k : Nat} {c : Ent} (hk : l[k]? = some c) : okEnt c ∧ w.cell? ⟨g, k * 4, none⟩ = some (.int .i64 c.1) ∧ w.cell? ⟨g, k * 4 + 1, none⟩ = some (.int .i64 c.2.1) ∧ w.cell? ⟨g, k * 4 + 2, none⟩ = some (.int .i64 c.2.2.1) ∧ w.cell? ⟨g, k * 4 + 3, none⟩ = some (.string c.2.2.2) := by
  obtain ⟨cs, h1, hc⟩ := h.at hk
  obtain ⟨rfl, hok⟩ := ent_inv h1
  exact ⟨hok, hc 0 _ rfl, hc 1 _ rfl, hc 2 _ rfl, hc 3 _ rfl⟩
theorem ent_each {S : Nat → Prop} {w : World} {ao : Option Addr} {l : List Ent} (h : SlAt rEnt S w ao l) : ∀ c ∈ l, okEnt c := by
  intro c hc
  obtain ⟨k, hk⟩ := List.mem_iff_getElem?.1 hc
  obtain ⟨_, _, _, _, _, h1, _⟩ := ent_get h hk
  exact h1
theorem ent_ne {c d : Ent} (h : c ≠ d) : (¬ c.1 = d.1) ∨ (c.1 = d.1 ∧ ¬ c.2.1 = d.2.1) ∨ (c.1 = d.1 ∧ c.2.1 = d.2.1 ∧ ¬ c.2.2.1 = d.2.2.1) ∨ (c.1 = d.1 ∧ c.2.1 = d.2.1 ∧ c.2.2.1 = d.2.2.1 ∧ (c.2.2.2.toList == d.2.2.2.toList) = false) := by
  have hext : c.1 = d.1 → c.2.1 = d.2.1 → c.2.2.1 = d.2.2.1 → c.2.2.2 = d.2.2.2 → c = d := fun x0 x1 x2 x3 => Prod.ext x0 (Prod.ext x1 (Prod.ext x2 (x3)))
  by_cases e0 : c.1 = d.1
  · by_cases e1 : c.2.1 = d.2.1
    · by_cases e2 : c.2.2.1 = d.2.2.1
      · by_cases e3 : c.2.2.2 = d.2.2.2
        · exact absurd (hext e0 e1 e2 e3) h
        · exact .inr (.inr (.inr ((⟨e0, e1, e2, by rw [str_eq]; simpa using e3⟩))))
      · exact .inr (.inr (.inl (⟨e0, e1, e2⟩)))
    · exact .inr (.inl (⟨e0, e1⟩))
  · exact .inl (e0)
theorem ent_info : (Tryz.prog.info? 30).map (fun i => (i.zero, i.size, i.bytes)) = some (some (.agg #[.int .i64 0, .int .i64 0, .int .i64 0, .string ByteArray.empty]), 4, 40) := by kernel_rfl

abbrev Pai := Int × Int × Int
def rPai : Rd Pai := ((Rd.int .i64)).pair (((Rd.int .i64)).pair ((Rd.int .i64)))
def okPai (c : Pai) : Prop := (Lit.int .i64 c.1).wf = true ∧ (Lit.int .i64 c.2.1).wf = true ∧ (Lit.int .i64 c.2.2).wf = true
def cellsPai (c : Pai) : List Value := [.int .i64 c.1, .int .i64 c.2.1, .int .i64 c.2.2]
def encPai (c : Pai) : Value := .agg #[.int .i64 c.1, .int .i64 c.2.1, .int .i64 c.2.2]
theorem pai_get {S : Nat → Prop} {w : World} {ao : Option Addr} {l : List Pai} (h : SlAt rPai S w ao l) {k : Nat} {c : Pai} (hk : l[k]? = some c) :
    ∃ b off, ao = some ⟨b, off, none⟩ ∧ S b ∧ b < w.heap.size ∧ okPai c ∧ w.cell? ⟨b, off + k * 3, none⟩ = some (.int .i64 c.1) ∧ w.cell? ⟨b, off + k * 3 + 1, none⟩ = some (.int .i64 c.2.1) ∧ w.cell? ⟨b, off + k * 3 + 2, none⟩ = some (.int .i64 c.2.2) := by
  obtain ⟨b, off, cs, rfl, hs, hlt, ⟨c0, d0, rfl, ⟨rfl, h0⟩, ⟨c1, d1, rfl, ⟨rfl, h1⟩, ⟨rfl, h2⟩⟩⟩, hc⟩ := h.get hk
  exact ⟨b, off, rfl, hs, hlt, ⟨h0, h1, h2⟩, hc 0 _ rfl, hc 1 _ rfl, hc 2 _ rfl⟩
theorem pai_rel (S : Nat → Prop) (w : World) (c : Pai) (h : okPai c) : rPai.rel S w (cellsPai c) c := by
  obtain ⟨h0, h1, h2⟩ := h
  exact ⟨[_], _, rfl, ⟨rfl, h0⟩, ⟨[_], _, rfl, ⟨rfl, h1⟩, ⟨rfl, h2⟩⟩⟩
theorem pai_inv {S : Nat → Prop} {w : World} {cs : List Value} {c : Pai} (h : rPai.rel S w cs c) : cs = cellsPai c ∧ okPai c := by
  obtain ⟨c0, d0, rfl, ⟨rfl, h0⟩, ⟨c1, d1, rfl, ⟨rfl, h1⟩, ⟨rfl, h2⟩⟩⟩ := h
  exact ⟨rfl, ⟨h0, h1, h2⟩⟩
theorem pai_flat : Flat rPai := by
  intro S S' w w' cs c h
  obtain ⟨rfl, h2⟩ := pai_inv h
  exact pai_rel S' w' c h2
theorem pai_one : ∀ S w cs (c : Pai), rPai.rel S w cs c → ∀ u ∈ cs, u.oneCell' = true := by
  intro S w cs c h u hu
  obtain ⟨rfl, _⟩ := pai_inv h
  simp [cellsPai] at hu
  rcases hu with rfl | rfl | rfl <;> rfl
theorem pai_own {S : Nat → Prop} {w : World} {base : Nat} {e : TypeId} {g n cap : Nat} {l : List Pai} (h : Own rPai S w base e (.slice (some ⟨g, 0, none⟩) n cap) l) {k : Nat} {c : Pai} (hk : l[k]? = some c) : okPai c ∧ w.cell? ⟨g, k * 3, none⟩ = some (.int .i64 c.1) ∧ w.cell? ⟨g, k * 3 + 1, none⟩ = some (.int .i64 c.2.1) ∧ w.cell? ⟨g, k * 3 + 2, none⟩ = some (.int .i64 c.2.2) := by
  obtain ⟨cs, h1, hc⟩ := h.at hk
  obtain ⟨rfl, hok⟩ := pai_inv h1
  exact ⟨hok, hc 0 _ rfl, hc 1 _ rfl, hc 2 _ rfl⟩
theorem pai_each {S : Nat → Prop} {w : World} {ao : Option Addr} {l : List Pai} (h : SlAt rPai S w ao l) : ∀ c ∈ l, okPai c := by
  intro c hc
  obtain ⟨k, hk⟩ := List.mem_iff_getElem?.1 hc
  obtain ⟨_, _, _, _, _, h1, _⟩ := pai_get h hk
  exact h1
theorem pai_ne {c d : Pai} (h : c ≠ d) : (¬ c.1 = d.1) ∨ (c.1 = d.1 ∧ ¬ c.2.1 = d.2.1) ∨ (c.1 = d.1 ∧ c.2.1 = d.2.1 ∧ ¬ c.2.2 = d.2.2) := by
  have hext : c.1 = d.1 → c.2.1 = d.2.1 → c.2.2 = d.2.2 → c = d := fun x0 x1 x2 => Prod.ext x0 (Prod.ext x1 (x2))
  by_cases e0 : c.1 = d.1
  · by_cases e1 : c.2.1 = d.2.1
    · by_cases e2 : c.2.2 = d.2.2
      · exact absurd (hext e0 e1 e2) h
      · exact .inr (.inr ((⟨e0, e1, e2⟩)))
    · exact .inr (.inl (⟨e0, e1⟩))
  · exact .inl (e0)
theorem pai_info : (Tryz.prog.info? 47).map (fun i => (i.zero, i.size, i.bytes)) = some (some (.agg #[.int .i64 0, .int .i64 0, .int .i64 0]), 3, 24) := by kernel_rfl

abbrev Rec := Int × Bool × Int × ByteArray × Int × Int × ByteArray × Int × ByteArray
def rRec : Rd Rec := ((Rd.int .i64)).pair ((Rd.bool).pair (((Rd.int .i64)).pair ((Rd.str).pair (((Rd.int .i64)).pair (((Rd.int .i64)).pair ((Rd.str).pair (((Rd.int .i64)).pair (Rd.str))))))))
def okRec (c : Rec) : Prop := (Lit.int .i64 c.1).wf = true ∧ True ∧ (Lit.int .i64 c.2.2.1).wf = true ∧ c.2.2.2.1.size ≤ maxTx ∧ (Lit.int .i64 c.2.2.2.2.1).wf = true ∧ (Lit.int .i64 c.2.2.2.2.2.1).wf = true ∧ c.2.2.2.2.2.2.1.size ≤ maxTx ∧ (Lit.int .i64 c.2.2.2.2.2.2.2.1).wf = true ∧ c.2.2.2.2.2.2.2.2.size ≤ maxTx
def cellsRec (c : Rec) : List Value := [.int .i64 c.1, .bool c.2.1, .int .i64 c.2.2.1, .string c.2.2.2.1, .int .i64 c.2.2.2.2.1, .int .i64 c.2.2.2.2.2.1, .string c.2.2.2.2.2.2.1, .int .i64 c.2.2.2.2.2.2.2.1, .string c.2.2.2.2.2.2.2.2]
def encRec (c : Rec) : Value := .agg #[.int .i64 c.1, .bool c.2.1, .int .i64 c.2.2.1, .string c.2.2.2.1, .int .i64 c.2.2.2.2.1, .int .i64 c.2.2.2.2.2.1, .string c.2.2.2.2.2.2.1, .int .i64 c.2.2.2.2.2.2.2.1, .string c.2.2.2.2.2.2.2.2]
theorem rec_get {S : Nat → Prop} {w : World} {ao : Option Addr} {l : List Rec} (h : SlAt rRec S w ao l) {k : Nat} {c : Rec} (hk : l[k]? = some c) :
    ∃ b off, ao = some ⟨b, off, none⟩ ∧ S b ∧ b < w.heap.size ∧ okRec c ∧ w.cell? ⟨b, off + k * 9, none⟩ = some (.int .i64 c.1) ∧ w.cell? ⟨b, off + k * 9 + 1, none⟩ = some (.bool c.2.1) ∧ w.cell? ⟨b, off + k * 9 + 2, none⟩ = some (.int .i64 c.2.2.1) ∧ w.cell? ⟨b, off + k * 9 + 3, none⟩ = some (.string c.2.2.2.1) ∧ w.cell? ⟨b, off + k * 9 + 4, none⟩ = some (.int .i64 c.2.2.2.2.1) ∧ w.cell? ⟨b, off + k * 9 + 5, none⟩ = some (.int .i64 c.2.2.2.2.2.1) ∧ w.cell? ⟨b, off + k * 9 + 6, none⟩ = some (.string c.2.2.2.2.2.2.1) ∧ w.cell? ⟨b, off + k * 9 + 7, none⟩ = some (.int .i64 c.2.2.2.2.2.2.2.1) ∧ w.cell? ⟨b, off + k * 9 + 8, none⟩ = some (.string c.2.2.2.2.2.2.2.2) := by
  obtain ⟨b, off, cs, rfl, hs, hlt, ⟨c0, d0, rfl, ⟨rfl, h0⟩, ⟨c1, d1, rfl, rfl, ⟨c2, d2, rfl, ⟨rfl, h2⟩, ⟨c3, d3, rfl, ⟨rfl, h3⟩, ⟨c4, d4, rfl, ⟨rfl, h4⟩, ⟨c5, d5, rfl, ⟨rfl, h5⟩, ⟨c6, d6, rfl, ⟨rfl, h6⟩, ⟨c7, d7, rfl, ⟨rfl, h7⟩, ⟨rfl, h8⟩⟩⟩⟩⟩⟩⟩⟩⟩, hc⟩ := h.get hk
  exact ⟨b, off, rfl, hs, hlt, ⟨h0, trivial, h2, h3, h4, h5, h6, h7, h8⟩, hc 0 _ rfl, hc 1 _ rfl, hc 2 _ rfl, hc 3 _ rfl, hc 4 _ rfl, hc 5 _ rfl, hc 6 _ rfl, hc 7 _ rfl, hc 8 _ rfl⟩
theorem rec_rel (S : Nat → Prop) (w : World) (c : Rec) (h : okRec c) : rRec.rel S w (cellsRec c) c := by
  obtain ⟨h0, _, h2, h3, h4, h5, h6, h7, h8⟩ := h
  exact ⟨[_], _, rfl, ⟨rfl, h0⟩, ⟨[_], _, rfl, rfl, ⟨[_], _, rfl, ⟨rfl, h2⟩, ⟨[_], _, rfl, ⟨rfl, h3⟩, ⟨[_], _, rfl, ⟨rfl, h4⟩, ⟨[_], _, rfl, ⟨rfl, h5⟩, ⟨[_], _, rfl, ⟨rfl, h6⟩, ⟨[_], _, rfl, ⟨rfl, h7⟩, ⟨rfl, h8⟩⟩⟩⟩⟩⟩⟩⟩⟩
theorem rec_inv {S : Nat → Prop} {w : World} {cs : List Value} {c : Rec} (h : rRec.rel S w cs c) : cs = cellsRec c ∧ okRec c := by
  obtain ⟨c0, d0, rfl, ⟨rfl, h0⟩, ⟨c1, d1, rfl, rfl, ⟨c2, d2, rfl, ⟨rfl, h2⟩, ⟨c3, d3, rfl, ⟨rfl, h3⟩, ⟨c4, d4, rfl, ⟨rfl, h4⟩, ⟨c5, d5, rfl, ⟨rfl, h5⟩, ⟨c6, d6, rfl, ⟨rfl, h6⟩, ⟨c7, d7, rfl, ⟨rfl, h7⟩, ⟨rfl, h8⟩⟩⟩⟩⟩⟩⟩⟩⟩ := h
  exact ⟨rfl, ⟨h0, trivial, h2, h3, h4, h5, h6, h7, h8⟩⟩
theorem rec_flat : Flat rRec := by
  intro S S' w w' cs c h
  obtain ⟨rfl, h2⟩ := rec_inv h
  exact rec_rel S' w' c h2
theorem rec_one : ∀ S w cs (c : Rec), rRec.rel S w cs c → ∀ u ∈ cs, u.oneCell' = true := by
  intro S w cs c h u hu
  obtain ⟨rfl, _⟩ := rec_inv h
  simp [cellsRec] at hu
  rcases hu with rfl | rfl | rfl | rfl | rfl | rfl | rfl | rfl | rfl <;> rfl
theorem rec_own {S : Nat → Prop} {w : World} {base : Nat} {e : TypeId} {g n cap : Nat} {l : List Rec} (h : Own rRec S w base e (.slice (some ⟨g, 0, none⟩) n cap) l) {k : Nat} {c : Rec} (hk : l[k]? = some c) : okRec c ∧ w.cell? ⟨g, k * 9, none⟩ = some (.int .i64 c.1) ∧ w.cell? ⟨g, k * 9 + 1, none⟩ = some (.bool c.2.1) ∧ w.cell? ⟨g, k * 9 + 2, none⟩ = some (.int .i64 c.2.2.1) ∧ w.cell? ⟨g, k * 9 + 3, none⟩ = some (.string c.2.2.2.1) ∧ w.cell? ⟨g, k * 9 + 4, none⟩ = some (.int .i64 c.2.2.2.2.1) ∧ w.cell? ⟨g, k * 9 + 5, none⟩ = some (.int .i64 c.2.2.2.2.2.1) ∧ w.cell? ⟨g, k * 9 + 6, none⟩ = some (.string c.2.2.2.2.2.2.1) ∧ w.cell? ⟨g, k * 9 + 7, none⟩ = some (.int .i64 c.2.2.2.2.2.2.2.1) ∧ w.cell? ⟨g, k * 9 + 8, none⟩ = some (.string c.2.2.2.2.2.2.2.2) := by
  obtain ⟨cs, h1, hc⟩ := h.at hk
  obtain ⟨rfl, hok⟩ := rec_inv h1
  exact ⟨hok, hc 0 _ rfl, hc 1 _ rfl, hc 2 _ rfl, hc 3 _ rfl, hc 4 _ rfl, hc 5 _ rfl, hc 6 _ rfl, hc 7 _ rfl, hc 8 _ rfl⟩
theorem rec_each {S : Nat → Prop} {w : World} {ao : Option Addr} {l : List Rec} (h : SlAt rRec S w ao l) : ∀ c ∈ l, okRec c := by
  intro c hc
  obtain ⟨k, hk⟩ := List.mem_iff_getElem?.1 hc
  obtain ⟨_, _, _, _, _, h1, _⟩ := rec_get h hk
  exact h1
theorem rec_ne {c d : Rec} (h : c ≠ d) : (¬ c.1 = d.1) ∨ (c.1 = d.1 ∧ (c.2.1 == d.2.1) = false) ∨ (c.1 = d.1 ∧ (c.2.1 == d.2.1) = true ∧ ¬ c.2.2.1 = d.2.2.1) ∨ (c.1 = d.1 ∧ (c.2.1 == d.2.1) = true ∧ c.2.2.1 = d.2.2.1 ∧ (c.2.2.2.1.toList == d.2.2.2.1.toList) = false) ∨ (c.1 = d.1 ∧ (c.2.1 == d.2.1) = true ∧ c.2.2.1 = d.2.2.1 ∧ (c.2.2.2.1.toList == d.2.2.2.1.toList) = true ∧ ¬ c.2.2.2.2.1 = d.2.2.2.2.1) ∨ (c.1 = d.1 ∧ (c.2.1 == d.2.1) = true ∧ c.2.2.1 = d.2.2.1 ∧ (c.2.2.2.1.toList == d.2.2.2.1.toList) = true ∧ c.2.2.2.2.1 = d.2.2.2.2.1 ∧ ¬ c.2.2.2.2.2.1 = d.2.2.2.2.2.1) ∨ (c.1 = d.1 ∧ (c.2.1 == d.2.1) = true ∧ c.2.2.1 = d.2.2.1 ∧ (c.2.2.2.1.toList == d.2.2.2.1.toList) = true ∧ c.2.2.2.2.1 = d.2.2.2.2.1 ∧ c.2.2.2.2.2.1 = d.2.2.2.2.2.1 ∧ (c.2.2.2.2.2.2.1.toList == d.2.2.2.2.2.2.1.toList) = false) ∨ (c.1 = d.1 ∧ (c.2.1 == d.2.1) = true ∧ c.2.2.1 = d.2.2.1 ∧ (c.2.2.2.1.toList == d.2.2.2.1.toList) = true ∧ c.2.2.2.2.1 = d.2.2.2.2.1 ∧ c.2.2.2.2.2.1 = d.2.2.2.2.2.1 ∧ (c.2.2.2.2.2.2.1.toList == d.2.2.2.2.2.2.1.toList) = true ∧ ¬ c.2.2.2.2.2.2.2.1 = d.2.2.2.2.2.2.2.1) ∨ (c.1 = d.1 ∧ (c.2.1 == d.2.1) = true ∧ c.2.2.1 = d.2.2.1 ∧ (c.2.2.2.1.toList == d.2.2.2.1.toList) = true ∧ c.2.2.2.2.1 = d.2.2.2.2.1 ∧ c.2.2.2.2.2.1 = d.2.2.2.2.2.1 ∧ (c.2.2.2.2.2.2.1.toList == d.2.2.2.2.2.2.1.toList) = true ∧ c.2.2.2.2.2.2.2.1 = d.2.2.2.2.2.2.2.1 ∧ (c.2.2.2.2.2.2.2.2.toList == d.2.2.2.2.2.2.2.2.toList) = false) := by
  have hext : c.1 = d.1 → c.2.1 = d.2.1 → c.2.2.1 = d.2.2.1 → c.2.2.2.1 = d.2.2.2.1 → c.2.2.2.2.1 = d.2.2.2.2.1 → c.2.2.2.2.2.1 = d.2.2.2.2.2.1 → c.2.2.2.2.2.2.1 = d.2.2.2.2.2.2.1 → c.2.2.2.2.2.2.2.1 = d.2.2.2.2.2.2.2.1 → c.2.2.2.2.2.2.2.2 = d.2.2.2.2.2.2.2.2 → c = d := fun x0 x1 x2 x3 x4 x5 x6 x7 x8 => Prod.ext x0 (Prod.ext x1 (Prod.ext x2 (Prod.ext x3 (Prod.ext x4 (Prod.ext x5 (Prod.ext x6 (Prod.ext x7 (x8))))))))
  by_cases e0 : c.1 = d.1
  · by_cases e1 : c.2.1 = d.2.1
    · by_cases e2 : c.2.2.1 = d.2.2.1
      · by_cases e3 : c.2.2.2.1 = d.2.2.2.1
        · by_cases e4 : c.2.2.2.2.1 = d.2.2.2.2.1
          · by_cases e5 : c.2.2.2.2.2.1 = d.2.2.2.2.2.1
            · by_cases e6 : c.2.2.2.2.2.2.1 = d.2.2.2.2.2.2.1
              · by_cases e7 : c.2.2.2.2.2.2.2.1 = d.2.2.2.2.2.2.2.1
                · by_cases e8 : c.2.2.2.2.2.2.2.2 = d.2.2.2.2.2.2.2.2
                  · exact absurd (hext e0 e1 e2 e3 e4 e5 e6 e7 e8) h
                  · exact .inr (.inr (.inr (.inr (.inr (.inr (.inr (.inr ((⟨e0, (by simpa using e1), e2, (by rw [str_eq]; simpa using e3), e4, e5, (by rw [str_eq]; simpa using e6), e7, by rw [str_eq]; simpa using e8⟩)))))))))
                · exact .inr (.inr (.inr (.inr (.inr (.inr (.inr (.inl (⟨e0, (by simpa using e1), e2, (by rw [str_eq]; simpa using e3), e4, e5, (by rw [str_eq]; simpa using e6), e7⟩))))))))
              · exact .inr (.inr (.inr (.inr (.inr (.inr (.inl (⟨e0, (by simpa using e1), e2, (by rw [str_eq]; simpa using e3), e4, e5, by rw [str_eq]; simpa using e6⟩)))))))
            · exact .inr (.inr (.inr (.inr (.inr (.inl (⟨e0, (by simpa using e1), e2, (by rw [str_eq]; simpa using e3), e4, e5⟩))))))
          · exact .inr (.inr (.inr (.inr (.inl (⟨e0, (by simpa using e1), e2, (by rw [str_eq]; simpa using e3), e4⟩)))))
        · exact .inr (.inr (.inr (.inl (⟨e0, (by simpa using e1), e2, by rw [str_eq]; simpa using e3⟩))))
      · exact .inr (.inr (.inl (⟨e0, (by simpa using e1), e2⟩)))
    · exact .inr (.inl (⟨e0, by simpa using e1⟩))
  · exact .inl (e0)
theorem rec_info : (Tryz.prog.info? 32).map (fun i => (i.zero, i.size, i.bytes)) = some (some (.agg #[.int .i64 0, .bool false, .int .i64 0, .string ByteArray.empty, .int .i64 0, .int .i64 0, .string ByteArray.empty, .int .i64 0, .string ByteArray.empty]), 9, 96) := by kernel_rfl


set_option maxHeartbeats 1000000 in
set_option maxRecDepth 100000 in
theorem index_ent0 (ao : Option Addr) (cap : Nat) (l : List Ent) (g : FuncId) (p : Ent → Bool) (w : World) (hl : SlAt rEnt (· < w.heap.size) w ao l) (hlen : l.length ≤ 100000) (hp : PredOf okEnt encEnt g [] p w.heap.size w) :
    Calls Tryz.prog 34 #[.slice ao l.length cap, .func (.func g) #[] #[]] w (BelowPost (.int .i64 (idx p 0 l)) w) := by
  have HP := Lib.hid hp.calls
  have hen := hp.enters
  clear hp
  go_enter Tryz.func34, Tryz.ntmps34
  go_wp2_with fail
  go_loopw [8] (fun v8 wr => ∃ k : Nat, k ≤ l.length ∧ v8 = .int .i64 k ∧ Hid (idx p 0 l = idx p k (l.drop k)) ∧ Below w.heap.size w wr) (fun v8 _ => l.length - (intOf v8).toNat)
  case atStart => exact ⟨0, by omega, rfl, Lib.hid rfl, Below.refl _ _⟩
  case round =>
    obtain ⟨k, hk, rfl, hix, hb⟩ := hrel
    by_cases hkl : k < l.length
    · obtain ⟨c, hcl⟩ := some_at hkl
      obtain ⟨bb, oo, rfl, hs1, hb1, hok, x0, x1, x2, x3⟩ := ent_get (hl.old hb) hcl
      have hkl2 : (k : Int) < (l.length : Int) := by omega
      have hlim : k ≤ 100000 := by omega
      have hi2 := hix.out
      rw [drop_at2 hcl, idx] at hi2
      have hpc := HP.out wr c hok hb
      cases hpq : p c with
      | true =>
        rw [hpq] at hi2 hpc
        have HI := Lib.hid hi2
        have HC := Lib.hid hpc
        clear hi2 hpc hpq
        go_wp2_with fail
        refine HC.out.mono ?_
        rintro e w3 ⟨rfl, hb3⟩
        go_wp2_with fail
        go_ret
        exact ⟨by rw [HI.out]; rfl, chain hb hb3⟩
      | false =>
        rw [hpq] at hi2 hpc
        have HI := Lib.hid (show idx p 0 l = idx p (k + 1) (l.drop (k + 1)) from hi2)
        have HC := Lib.hid hpc
        clear hi2 hpc hpq
        go_wp2_with fail
        refine HC.out.mono ?_
        rintro e w3 ⟨rfl, hb3⟩
        go_wp2_with fail
        go_roundw
        case measure => simp [intOf]; omega
        case rel => exact ⟨k + 1, by omega, by go_num, HI, chain hb hb3⟩
    · obtain rfl : k = l.length := by omega
      have hi2 := hix.out
      rw [List.drop_length, idx] at hi2
      have HI := Lib.hid hi2
      clear hi2
      go_wp2_with fail
      go_ret
      exact ⟨by rw [HI.out]; rfl, hb⟩


set_option maxHeartbeats 1000000 in
set_option maxRecDepth 100000 in
theorem index_ent1 (ao : Option Addr) (cap : Nat) (l : List Ent) (g : FuncId) (b0 : Value) (p : Ent → Bool) (w : World) (hl : SlAt rEnt (· < w.heap.size) w ao l) (hlen : l.length ≤ 100000) (hp : PredOf okEnt encEnt g [b0] p w.heap.size w) :
    Calls Tryz.prog 34 #[.slice ao l.length cap, .func (.func g) #[] #[b0]] w (BelowPost (.int .i64 (idx p 0 l)) w) := by
  have HP := Lib.hid hp.calls
  have hen := hp.enters
  clear hp
  go_enter Tryz.func34, Tryz.ntmps34
  go_wp2_with fail
  go_loopw [8] (fun v8 wr => ∃ k : Nat, k ≤ l.length ∧ v8 = .int .i64 k ∧ Hid (idx p 0 l = idx p k (l.drop k)) ∧ Below w.heap.size w wr) (fun v8 _ => l.length - (intOf v8).toNat)
  case atStart => exact ⟨0, by omega, rfl, Lib.hid rfl, Below.refl _ _⟩
  case round =>
    obtain ⟨k, hk, rfl, hix, hb⟩ := hrel
    by_cases hkl : k < l.length
    · obtain ⟨c, hcl⟩ := some_at hkl
      obtain ⟨bb, oo, rfl, hs1, hb1, hok, x0, x1, x2, x3⟩ := ent_get (hl.old hb) hcl
      have hkl2 : (k : Int) < (l.length : Int) := by omega
      have hlim : k ≤ 100000 := by omega
      have hi2 := hix.out
      rw [drop_at2 hcl, idx] at hi2
      have hpc := HP.out wr c hok hb
      cases hpq : p c with
      | true =>
        rw [hpq] at hi2 hpc
        have HI := Lib.hid hi2
        have HC := Lib.hid hpc
        clear hi2 hpc hpq
        go_wp2_with fail
        refine HC.out.mono ?_
        rintro e w3 ⟨rfl, hb3⟩
        go_wp2_with fail
        go_ret
        exact ⟨by rw [HI.out]; rfl, chain hb hb3⟩
      | false =>
        rw [hpq] at hi2 hpc
        have HI := Lib.hid (show idx p 0 l = idx p (k + 1) (l.drop (k + 1)) from hi2)
        have HC := Lib.hid hpc
        clear hi2 hpc hpq
        go_wp2_with fail
        refine HC.out.mono ?_
        rintro e w3 ⟨rfl, hb3⟩
        go_wp2_with fail
        go_roundw
        case measure => simp [intOf]; omega
        case rel => exact ⟨k + 1, by omega, by go_num, HI, chain hb hb3⟩
    · obtain rfl : k = l.length := by omega
      have hi2 := hix.out
      rw [List.drop_length, idx] at hi2
      have HI := Lib.hid hi2
      clear hi2
      go_wp2_with fail
      go_ret
      exact ⟨by rw [HI.out]; rfl, hb⟩


set_option maxHeartbeats 1000000 in
set_option maxRecDepth 100000 in
theorem index_rec0 (ao : Option Addr) (cap : Nat) (l : List Rec) (g : FuncId) (p : Rec → Bool) (w : World) (hl : SlAt rRec (· < w.heap.size) w ao l) (hlen : l.length ≤ 100000) (hp : PredOf okRec encRec g [] p w.heap.size w) :
    Calls Tryz.prog 21 #[.slice ao l.length cap, .func (.func g) #[] #[]] w (BelowPost (.int .i64 (idx p 0 l)) w) := by
  have HP := Lib.hid hp.calls
  have hen := hp.enters
  clear hp
  go_enter Tryz.func21, Tryz.ntmps21
  go_wp2_with fail
  go_loopw [8] (fun v8 wr => ∃ k : Nat, k ≤ l.length ∧ v8 = .int .i64 k ∧ Hid (idx p 0 l = idx p k (l.drop k)) ∧ Below w.heap.size w wr) (fun v8 _ => l.length - (intOf v8).toNat)
  case atStart => exact ⟨0, by omega, rfl, Lib.hid rfl, Below.refl _ _⟩
  case round =>
    obtain ⟨k, hk, rfl, hix, hb⟩ := hrel
    by_cases hkl : k < l.length
    · obtain ⟨c, hcl⟩ := some_at hkl
      obtain ⟨bb, oo, rfl, hs1, hb1, hok, x0, x1, x2, x3, x4, x5, x6, x7, x8⟩ := rec_get (hl.old hb) hcl
      have hkl2 : (k : Int) < (l.length : Int) := by omega
      have hlim : k ≤ 100000 := by omega
      have hi2 := hix.out
      rw [drop_at2 hcl, idx] at hi2
      have hpc := HP.out wr c hok hb
      cases hpq : p c with
      | true =>
        rw [hpq] at hi2 hpc
        have HI := Lib.hid hi2
        have HC := Lib.hid hpc
        clear hi2 hpc hpq
        go_wp2_with fail
        refine HC.out.mono ?_
        rintro e w3 ⟨rfl, hb3⟩
        go_wp2_with fail
        go_ret
        exact ⟨by rw [HI.out]; rfl, chain hb hb3⟩
      | false =>
        rw [hpq] at hi2 hpc
        have HI := Lib.hid (show idx p 0 l = idx p (k + 1) (l.drop (k + 1)) from hi2)
        have HC := Lib.hid hpc
        clear hi2 hpc hpq
        go_wp2_with fail
        refine HC.out.mono ?_
        rintro e w3 ⟨rfl, hb3⟩
        go_wp2_with fail
        go_roundw
        case measure => simp [intOf]; omega
        case rel => exact ⟨k + 1, by omega, by go_num, HI, chain hb hb3⟩
    · obtain rfl : k = l.length := by omega
      have hi2 := hix.out
      rw [List.drop_length, idx] at hi2
      have HI := Lib.hid hi2
      clear hi2
      go_wp2_with fail
      go_ret
      exact ⟨by rw [HI.out]; rfl, hb⟩


set_option maxHeartbeats 1000000 in
set_option maxRecDepth 100000 in
theorem index_rec1 (ao : Option Addr) (cap : Nat) (l : List Rec) (g : FuncId) (b0 : Value) (p : Rec → Bool) (w : World) (hl : SlAt rRec (· < w.heap.size) w ao l) (hlen : l.length ≤ 100000) (hp : PredOf okRec encRec g [b0] p w.heap.size w) :
    Calls Tryz.prog 21 #[.slice ao l.length cap, .func (.func g) #[] #[b0]] w (BelowPost (.int .i64 (idx p 0 l)) w) := by
  have HP := Lib.hid hp.calls
  have hen := hp.enters
  clear hp
  go_enter Tryz.func21, Tryz.ntmps21
  go_wp2_with fail
  go_loopw [8] (fun v8 wr => ∃ k : Nat, k ≤ l.length ∧ v8 = .int .i64 k ∧ Hid (idx p 0 l = idx p k (l.drop k)) ∧ Below w.heap.size w wr) (fun v8 _ => l.length - (intOf v8).toNat)
  case atStart => exact ⟨0, by omega, rfl, Lib.hid rfl, Below.refl _ _⟩
  case round =>
    obtain ⟨k, hk, rfl, hix, hb⟩ := hrel
    by_cases hkl : k < l.length
    · obtain ⟨c, hcl⟩ := some_at hkl
      obtain ⟨bb, oo, rfl, hs1, hb1, hok, x0, x1, x2, x3, x4, x5, x6, x7, x8⟩ := rec_get (hl.old hb) hcl
      have hkl2 : (k : Int) < (l.length : Int) := by omega
      have hlim : k ≤ 100000 := by omega
      have hi2 := hix.out
      rw [drop_at2 hcl, idx] at hi2
      have hpc := HP.out wr c hok hb
      cases hpq : p c with
      | true =>
        rw [hpq] at hi2 hpc
        have HI := Lib.hid hi2
        have HC := Lib.hid hpc
        clear hi2 hpc hpq
        go_wp2_with fail
        refine HC.out.mono ?_
        rintro e w3 ⟨rfl, hb3⟩
        go_wp2_with fail
        go_ret
        exact ⟨by rw [HI.out]; rfl, chain hb hb3⟩
      | false =>
        rw [hpq] at hi2 hpc
        have HI := Lib.hid (show idx p 0 l = idx p (k + 1) (l.drop (k + 1)) from hi2)
        have HC := Lib.hid hpc
        clear hi2 hpc hpq
        go_wp2_with fail
        refine HC.out.mono ?_
        rintro e w3 ⟨rfl, hb3⟩
        go_wp2_with fail
        go_roundw
        case measure => simp [intOf]; omega
        case rel => exact ⟨k + 1, by omega, by go_num, HI, chain hb hb3⟩
    · obtain rfl : k = l.length := by omega
      have hi2 := hix.out
      rw [List.drop_length, idx] at hi2
      have HI := Lib.hid hi2
      clear hi2
      go_wp2_with fail
      go_ret
      exact ⟨by rw [HI.out]; rfl, hb⟩

end Go.Proofs.YtefefpiealknlaaGreatDoor
