/- A line that is read: what comes of it, and the memory in which the program builds it. -/
import Derived.Test.YtioeobkneikgfaaPrPar
namespace Go.Proofs.Ytioeobkneikgfaa
open Go.RowKit Lift
set_option linter.unusedSimpArgs false
set_option linter.unusedVariables false

abbrev P4 := ByteArray × ByteArray × List Par × ByteArray
abbrev PR := P4 × Nat × Int
def fail4 (a : Nat) (e : Int) : PR := ((⟨#[]⟩, ⟨#[]⟩, [], ⟨#[]⟩), a, e)
def oddAt (v : ByteArray) : Int := Lib.indexAny v.data.toList [0, 10, 13]
def tailP (s : ByteArray) (e : Nat) (g n : ByteArray) (ps : List Par) : PR :=
  if 2400 < (s.extract (e + 1) s.size).size then fail4 (e + 1) 8
  else if 0 ≤ oddAt (s.extract (e + 1) s.size) then fail4 (e + 1 + (oddAt (s.extract (e + 1) s.size)).toNat) 3
  else ((g, n, ps, s.extract (e + 1) s.size), 0, 0)
def parsP (s : ByteArray) (e : Nat) (g n : ByteArray) : Nat → Nat → List Par → PR
  | 0, _, _ => fail4 0 0
  | f + 1, a, ps =>
    if ps.length = 6 then fail4 a 4
    else if okX s a (findL s a e 59) = false then fail4 a 3
    else if findL s a e 59 < e then parsP s e g n f (findL s a e 59 + 1) (ps ++ [parX s a (findL s a e 59)])
    else tailP s e g n (ps ++ [parX s a (findL s a e 59)])
def moreP (s : ByteArray) (e : Nat) (g n : ByteArray) (ps : List Par) (a : Nat) (more : Bool) : PR := if more = true then parsP s e g n (7 - ps.length) a ps else tailP s e g n ps
def nameP (s : ByteArray) (e stop a : Nat) (g : ByteArray) : PR :=
  if isName (upS (s.extract a stop)) = false then fail4 a 14
  else moreP s e g (upS (s.extract a stop)) [] (stop + 1) (decide (stop < e))
def readP (s : ByteArray) : PR :=
  if findL s 0 s.size 58 < s.size then
    if findL s 0 (findL s 0 (findL s 0 s.size 58) 59) 46 < findL s 0 (findL s 0 s.size 58) 59 then
      if isName (upS (s.extract 0 (findL s 0 (findL s 0 (findL s 0 s.size 58) 59) 46))) = false then fail4 0 14
      else nameP s (findL s 0 s.size 58) (findL s 0 (findL s 0 s.size 58) 59) (findL s 0 (findL s 0 (findL s 0 s.size 58) 59) 46 + 1) (upS (s.extract 0 (findL s 0 (findL s 0 (findL s 0 s.size 58) 59) 46)))
    else nameP s (findL s 0 s.size 58) (findL s 0 (findL s 0 s.size 58) 59) 0 ⟨#[]⟩
  else fail4 s.size 1
theorem moreP_step (s : ByteArray) (e : Nat) (g n : ByteArray) (ps : List Par) (a : Nat) (h : ps.length < 6) : moreP s e g n ps a true = if okX s a (findL s a e 59) = false then fail4 a 3 else moreP s e g n (ps ++ [parX s a (findL s a e 59)]) (findL s a e 59 + 1) (decide (findL s a e 59 < e)) := by
  unfold moreP
  rw [if_pos rfl, show 7 - ps.length = (6 - ps.length) + 1 by omega, parsP, if_neg (by omega)]
  rw [show 7 - (ps ++ [parX s a (findL s a e 59)]).length = 6 - ps.length by rw [List.length_append, List.length_singleton]; omega]
  split
  · rfl
  · by_cases hq : findL s a e 59 < e
    · rw [if_pos hq, if_pos (by simpa using hq)]
    · rw [if_neg hq, if_neg (by simpa using hq)]
theorem moreP_full (s : ByteArray) (e : Nat) (g n : ByteArray) (ps : List Par) (a : Nat) (h : ps.length = 6) : moreP s e g n ps a true = fail4 a 4 := by
  unfold moreP
  rw [if_pos rfl, h, parsP, if_pos h]
theorem extract_all (s : ByteArray) : s.extract 0 s.size = s := by
  apply ByteArray.ext; apply Array.toList_inj.1; simp

def ReadPost (x : PR) (w : World) (e : Ending) (w' : World) : Prop := ∃ ao cap, e = .returned (.tuple #[propV x.1.1 x.1.2.1 ao x.1.2.2.1.length cap x.1.2.2.2 none 0 0, .int .i64 x.2.1, .int .i64 x.2.2]) ∧ Own rPar (fun _ => True) w' w.heap.size 42 (.slice ao x.1.2.2.1.length cap) x.1.2.2.1 ∧ Below w.heap.size w w'

/-- What is handed back, empty yet. -/
structure FA (b2 : Nat) (B0 w : World) : Prop where
  cells : w.cell? ⟨b2, 0, none⟩ = some (.string ⟨#[]⟩) ∧ w.cell? ⟨b2, 1, none⟩ = some (.string ⟨#[]⟩) ∧ w.cell? ⟨b2, 2, none⟩ = some (.slice none 0 0) ∧ w.cell? ⟨b2, 3, none⟩ = some (.string ⟨#[]⟩) ∧ w.cell? ⟨b2, 4, none⟩ = some (.slice none 0 0)
  free : ∀ k, w.frozen? ⟨b2, k, none⟩ = false
  lt : b2 < w.heap.size
  base : B0.heap.size = b2
  below : Below b2 B0 w
theorem FA.kept {b2 : Nat} {B0 w w' : World} (h : FA b2 B0 w) (hk : Kept (fun k => b2 < k) w w') : FA b2 B0 w' := by
  obtain ⟨⟨c0, c1, c2, c3, c4⟩, hf, hl, hB, hbl⟩ := h
  have hn : ¬ (b2 < b2) := by omega
  exact ⟨⟨(hk.cell (p := ⟨b2, 0, none⟩) hl hn).trans c0, (hk.cell (p := ⟨b2, 1, none⟩) hl hn).trans c1, (hk.cell (p := ⟨b2, 2, none⟩) hl hn).trans c2, (hk.cell (p := ⟨b2, 3, none⟩) hl hn).trans c3, (hk.cell (p := ⟨b2, 4, none⟩) hl hn).trans c4⟩,
    fun k => (hk.frozen (p := ⟨b2, k, none⟩) hl hn).trans (hf k), by have := hk.size; omega, hB, hbl.trans (hk.below (by omega) (fun k hk => by omega))⟩
theorem FA.next {b2 : Nat} {B0 w w' : World} (h : FA b2 B0 w) (hb : Below w.heap.size w w') : FA b2 B0 w' := h.kept (Kept.of_below hb _)
theorem FA.mk0 {w w1 : World} (hb1 : Below (w.heap.size + 1) (w.alloc (propC ⟨#[]⟩ ⟨#[]⟩ none 0 0 ⟨#[]⟩ none 0 0)) w1) : FA w.heap.size w w1 := by
  obtain ⟨hc, hf⟩ := bcell hb1
  have hz := hb1.size
  rw [World.size_alloc] at hz
  refine ⟨⟨?_, ?_, ?_, ?_, ?_⟩, fun k => ?_, by omega, rfl, ((Below.refl _ w).alloc (Nat.le_refl _) _).trans (hb1.mono (by omega))⟩
  all_goals first | (rw [hc _ _ (by omega)]; simp [go_sem, propC]; done) | (rw [hf _ _ (by omega)]; simp [go_sem, propC]; done)
theorem FA.fail {b2 : Nat} {B0 w wf : World} (h : FA b2 B0 w) (hk : Kept (fun k => b2 ≤ k) w wf) (a : Nat) (e : Int) : ReadPost (fail4 a e) B0 (.returned (.tuple #[propV ⟨#[]⟩ ⟨#[]⟩ none 0 0 ⟨#[]⟩ none 0 0, .int .i64 a, .int .i64 e])) wf :=
  ⟨none, 0, rfl, Own.nil _ _ _ _ _, by have := h.base; subst this; exact h.below.trans (hk.below (by have := h.lt; omega) (fun k hk => hk))⟩

/-- .. and the property that is being built beside it. -/
structure FB (b2 b8 : Nat) (B0 : World) (g n : ByteArray) (vps : Value) (ps : List Par) (v : ByteArray) (w : World) : Prop where
  fa : FA b2 B0 w
  cells : w.cell? ⟨b8, 0, none⟩ = some (.string g) ∧ w.cell? ⟨b8, 1, none⟩ = some (.string n) ∧ w.cell? ⟨b8, 2, none⟩ = some vps ∧ w.cell? ⟨b8, 3, none⟩ = some (.string v) ∧ w.cell? ⟨b8, 4, none⟩ = some (.slice none 0 0)
  free : ∀ k, w.frozen? ⟨b8, k, none⟩ = false
  lt : b2 < b8 ∧ b8 < w.heap.size
  own : Own rPar (fun _ => True) w (b8 + 1) 42 vps ps
theorem FB.next {b2 b8 : Nat} {B0 : World} {g n : ByteArray} {vps : Value} {ps : List Par} {v : ByteArray} {w w' : World} (h : FB b2 b8 B0 g n vps ps v w) (hb : Below w.heap.size w w') : FB b2 b8 B0 g n vps ps v w' := by
  obtain ⟨hc, hf⟩ := bcell hb
  have hz := hb.size
  obtain ⟨hA, ⟨c0, c1, c2, c3, c4⟩, f0, ⟨l1, l2⟩, hO⟩ := h
  exact ⟨hA.next hb, ⟨by rw [hc _ _ (by omega)]; exact c0, by rw [hc _ _ (by omega)]; exact c1, by rw [hc _ _ (by omega)]; exact c2, by rw [hc _ _ (by omega)]; exact c3, by rw [hc _ _ (by omega)]; exact c4⟩,
    fun k => by rw [hf _ _ (by omega)]; exact f0 k, ⟨l1, by omega⟩, hO.below hb⟩
theorem FB.mk0 {b2 : Nat} {B0 w : World} (h : FA b2 B0 w) : FB b2 w.heap.size B0 ⟨#[]⟩ ⟨#[]⟩ (.slice none 0 0) [] ⟨#[]⟩ (w.alloc (propC ⟨#[]⟩ ⟨#[]⟩ none 0 0 ⟨#[]⟩ none 0 0)) := by
  have hl := h.lt
  refine ⟨h.next ((Below.refl _ _).alloc (Nat.le_refl _) _), ⟨?_, ?_, ?_, ?_, ?_⟩, fun k => ?_, ⟨hl, by simp⟩, Own.nil _ _ _ _ _⟩
  all_goals (simp [go_sem, propC])
theorem FB.keep {b2 b8 : Nat} {B0 : World} {g n : ByteArray} {vps : Value} {ps : List Par} {v : ByteArray} {w w' : World} (h : FB b2 b8 B0 g n vps ps v w) (hk : Kept (fun k => k = b8) w w') : FA b2 B0 w' ∧ (∀ k, w'.frozen? ⟨b8, k, none⟩ = w.frozen? ⟨b8, k, none⟩ → True) ∧ Own rPar (fun _ => True) w' (b8 + 1) 42 vps ps := by
  refine ⟨h.fa.kept (hk.wide (fun k _ hk => by have := h.lt.1; omega)), fun _ _ => trivial, h.own.low par_flat (hk.wide (fun k _ hk => by omega))⟩
/-- A field of it is stored. -/
theorem FB.put0 {b2 b8 : Nat} {B0 : World} {g n : ByteArray} {vps : Value} {ps : List Par} {v : ByteArray} {w : World} (h : FB b2 b8 B0 g n vps ps v w) (x : ByteArray) : FB b2 b8 B0 x n vps ps v (w.setCell ⟨b8, 0, none⟩ (.string x)) := by
  obtain ⟨hA, _, hO⟩ := h.keep (Kept.setCell (X := (· = b8)) w (p := ⟨b8, 0, none⟩) rfl (.string x))
  obtain ⟨_, ⟨c0, c1, c2, c3, c4⟩, f0, ⟨l1, l2⟩, _⟩ := h
  refine ⟨hA, ⟨World.cell?_setCell_same _ _ _ c0, ?_, ?_, ?_, ?_⟩, fun k => by rw [World.frozen?_setCell]; exact f0 k, ⟨l1, by simpa using l2⟩, hO⟩
  all_goals (rw [World.cell?_setCell_other _ _ _ _ (by intro e; injection e with _ e; cases e)]; assumption)
theorem FB.put1 {b2 b8 : Nat} {B0 : World} {g n : ByteArray} {vps : Value} {ps : List Par} {v : ByteArray} {w : World} (h : FB b2 b8 B0 g n vps ps v w) (x : ByteArray) : FB b2 b8 B0 g x vps ps v (w.setCell ⟨b8, 1, none⟩ (.string x)) := by
  obtain ⟨hA, _, hO⟩ := h.keep (Kept.setCell (X := (· = b8)) w (p := ⟨b8, 1, none⟩) rfl (.string x))
  obtain ⟨_, ⟨c0, c1, c2, c3, c4⟩, f0, ⟨l1, l2⟩, _⟩ := h
  refine ⟨hA, ⟨?_, World.cell?_setCell_same _ _ _ c1, ?_, ?_, ?_⟩, fun k => by rw [World.frozen?_setCell]; exact f0 k, ⟨l1, by simpa using l2⟩, hO⟩
  all_goals (rw [World.cell?_setCell_other _ _ _ _ (by intro e; injection e with _ e; cases e)]; assumption)
theorem FB.put3 {b2 b8 : Nat} {B0 : World} {g n : ByteArray} {vps : Value} {ps : List Par} {v : ByteArray} {w : World} (h : FB b2 b8 B0 g n vps ps v w) (x : ByteArray) : FB b2 b8 B0 g n vps ps x (w.setCell ⟨b8, 3, none⟩ (.string x)) := by
  obtain ⟨hA, _, hO⟩ := h.keep (Kept.setCell (X := (· = b8)) w (p := ⟨b8, 3, none⟩) rfl (.string x))
  obtain ⟨_, ⟨c0, c1, c2, c3, c4⟩, f0, ⟨l1, l2⟩, _⟩ := h
  refine ⟨hA, ⟨?_, ?_, ?_, World.cell?_setCell_same _ _ _ c3, ?_⟩, fun k => by rw [World.frozen?_setCell]; exact f0 k, ⟨l1, by simpa using l2⟩, hO⟩
  all_goals (rw [World.cell?_setCell_other _ _ _ _ (by intro e; injection e with _ e; cases e)]; assumption)
/-- A parameter is appended: the row may have moved; its header is stored. -/
theorem FB.push {b2 b8 : Nat} {B0 : World} {g n : ByteArray} {vps v' : Value} {ps ps' : List Par} {v : ByteArray} {w w' : World} (h : FB b2 b8 B0 g n vps ps v w) (hk : Kept (fun k => some k = vps.ownBlock) w w') (hO' : Own rPar (fun _ => True) w' (b8 + 1) 42 v' ps') : FB b2 b8 B0 g n v' ps' v (w'.setCell ⟨b8, 2, none⟩ v') := by
  have hlt := h.own.lt
  have hl := h.lt
  have hX : ¬ (some b8 = vps.ownBlock) := fun e => by have := (hlt _ e.symm).1; omega
  have hA := h.fa.kept (hk.wide (fun k _ e => by have := (hlt _ e.symm).1; omega))
  obtain ⟨_, ⟨c0, c1, c2, c3, c4⟩, f0, ⟨l1, l2⟩, _⟩ := h
  have hsz := hk.size
  have hk2 := Kept.setCell (X := (· = b8)) w' (p := ⟨b8, 2, none⟩) rfl v'
  refine ⟨hA.kept (hk2.wide (fun k _ e => by omega)), ⟨?_, ?_, World.cell?_setCell_same _ _ _ ((hk.cell (p := ⟨b8, 2, none⟩) l2 hX).trans c2), ?_, ?_⟩, fun k => by rw [World.frozen?_setCell]; exact (hk.frozen (p := ⟨b8, k, none⟩) l2 hX).trans (f0 k), ⟨l1, by simp; omega⟩, hO'.low par_flat (hk2.wide (fun k _ e => by omega))⟩
  · rw [World.cell?_setCell_other _ _ _ _ (by intro e; injection e with _ e; cases e)]; exact (hk.cell (p := ⟨b8, 0, none⟩) l2 hX).trans c0
  · rw [World.cell?_setCell_other _ _ _ _ (by intro e; injection e with _ e; cases e)]; exact (hk.cell (p := ⟨b8, 1, none⟩) l2 hX).trans c1
  · rw [World.cell?_setCell_other _ _ _ _ (by intro e; injection e with _ e; cases e)]; exact (hk.cell (p := ⟨b8, 3, none⟩) l2 hX).trans c3
  · rw [World.cell?_setCell_other _ _ _ _ (by intro e; injection e with _ e; cases e)]; exact (hk.cell (p := ⟨b8, 4, none⟩) l2 hX).trans c4
theorem FB.done {b2 b8 : Nat} {B0 : World} {g n : ByteArray} {ao : Option Addr} {cap : Nat} {ps : List Par} {v : ByteArray} {w wf : World} (h : FB b2 b8 B0 g n (.slice ao ps.length cap) ps v w) (hk : Kept (fun k => k = b2) w wf) :
    ReadPost ((g, n, ps, v), 0, 0) B0 (.returned (.tuple #[propV g n ao ps.length cap v none 0 0, .int .i64 0, .int .i64 0])) wf := by
  have hB := h.fa.base
  have hl := h.lt
  have hlt := h.fa.lt
  refine ⟨ao, cap, rfl, (h.own.low par_flat (hk.wide (fun k _ e => by omega))).rebase (by omega), ?_⟩
  rw [hB]
  exact h.fa.below.trans (hk.below (by omega) (fun k e => by omega))
theorem indexAny_lt (c : List UInt8) : ∀ l : List UInt8, Lib.indexAny l c < l.length
  | [] => by simp [Lib.indexAny]
  | b :: l => by
    have ih := indexAny_lt c l
    unfold Lib.indexAny
    split
    · simp only [List.length_cons]; omega
    · split
      · simp only [List.length_cons]; omega
      · simp only [List.length_cons]; omega
theorem cut_ext2 (s : ByteArray) (a b : Nat) (c : UInt8) (h1 : a ≤ b) (h2 : b ≤ s.size) : ∃ P : ByteArray, (findL s a b c < b → P = s.extract (findL s a b c + 1) b) ∧ cutB (s.extract a b) c = (s.extract a (findL s a b c), P, decide (findL s a b c < b)) := by
  have hle := findL_le s a b c h1 h2
  rw [cut_ext s a b c h1 h2]
  by_cases hq : findL s a b c < b
  · exact ⟨_, fun _ => rfl, by rw [if_pos hq, decide_eq_true hq]⟩
  · have : findL s a b c = b := by omega
    exact ⟨⟨#[]⟩, fun h => absurd h hq, by rw [if_neg hq, decide_eq_false hq, this]⟩
theorem FB.mid {b2 b8 : Nat} {B0 : World} {g n : ByteArray} {vps : Value} {ps : List Par} {v : ByteArray} {w w' : World} (h : FB b2 b8 B0 g n vps ps v w) (hk : Kept (fun k => some k = vps.ownBlock) w w') : w'.cell? ⟨b8, 2, none⟩ = some vps ∧ w'.frozen? ⟨b8, 2, none⟩ = false ∧ b8 < w'.heap.size := by
  have hX : ¬ (some b8 = vps.ownBlock) := fun e => by have := (h.own.lt _ e.symm).1; omega
  have hsz := hk.size
  have hl := h.lt
  exact ⟨(hk.cell (p := ⟨b8, 2, none⟩) hl.2 hX).trans h.cells.2.2.1, (hk.frozen (p := ⟨b8, 2, none⟩) hl.2 hX).trans (h.free 2), by omega⟩
theorem odd3_low : Low ⟨#[0, 10, 13]⟩ := by
  intro b hb
  have : b ∈ ([0, 10, 13] : List UInt8) := hb
  simp at this
  rcases this with rfl | rfl | rfl <;> decide
end Go.Proofs.Ytioeobkneikgfaa
