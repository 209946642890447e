/- Texts sorted; both sides' texts: the program's. -/
import Derived.Test.YtefefpiealknlaaGreatDoorAuCont
import Derived.Test.YtefefpiealknlaaGreatDoorSameS
import Derived.Test.YtefefpiealknlaaGreatDoorShelf
import Derived.Shelf.SortM.Plain
import Derived.Shelf.SortM.SortNone
import Derived.Sort.OwnSorted
namespace Go.Proofs.YtefefpiealknlaaGreatDoor
open Go.RowKit Go.Sort Go.Shelf Lift
set_option linter.unusedSimpArgs false
set_option linter.unusedVariables false

/-- Texts, rising. -/
def sortB (l : List ByteArray) : List ByteArray := ((l.map (fun s => s.data.toList)).mergeSort (fun x y => decide (x ≤ y))).map (fun b => ⟨b.toArray⟩)
theorem sortB_len (l : List ByteArray) : (sortB l).length = l.length := by simp [sortB]
theorem sortB_mem {l : List ByteArray} {s : ByteArray} (h : s ∈ sortB l) : s ∈ l := by
  unfold sortB at h
  obtain ⟨b, hb, rfl⟩ := List.mem_map.1 h
  have hb2 := (List.mergeSort_perm _ _).mem_iff.1 hb
  obtain ⟨s, hs, rfl⟩ := List.mem_map.1 hb2
  exact hs
theorem rows_strs {S : Nat → Prop} {w : World} {xs : List Value} : ∀ {l : List ByteArray}, RowsOf Rd.str S w xs l → xs = l.map (fun s => Value.string s) ∧ ∀ s ∈ l, s.size ≤ maxTx := by
  rintro l ⟨css, rfl, hl, h⟩
  induction l generalizing css with
  | nil =>
    have : css = [] := List.length_eq_zero_iff.1 hl
    subst this; simp
  | cons a l ih =>
    match css, hl with
    | c :: css, hl =>
      obtain ⟨cs, h1, rfl, h2⟩ := h 0 a rfl
      simp at h1; subst h1
      obtain ⟨e, h3⟩ := ih css (by simpa using hl) (fun k c hk => by have := h (k + 1) c (by simpa using hk); simpa using this)
      refine ⟨by rw [List.flatten_cons, e]; rfl, fun s hs => ?_⟩
      rcases List.mem_cons.1 hs with rfl | hs
      · exact h2
      · exact h3 s hs
theorem strs_rows (S : Nat → Prop) (w : World) : ∀ (l : List ByteArray), (∀ s ∈ l, s.size ≤ maxTx) → RowsOf Rd.str S w (l.map (fun s => Value.string s)) l
  | [], _ => RowsOf.nil _ _ _
  | a :: l, h => by
    have h1 := strs_rows S w l (fun s hs => h s (List.mem_cons_of_mem _ hs))
    have := ((RowsOf.nil Rd.str S w).snoc (str_rel S w a (h a (by simp)))).app h1
    simpa using this
theorem enc_strs (l : List ByteArray) : (l.map (fun s => s.data.toList)).map encStr = l.map (fun s => Value.string s) := by
  simp [List.map_map, Function.comp_def]
/-- What a sort of a row of the call's own leaves. -/
def SortPost (base : Nat) (v : Value) (l : List ByteArray) (w : World) (e : Ending) (w' : World) : Prop := e = .returned (.tuple #[]) ∧ Own Rd.str (fun _ => True) w' base 9 v l ∧ Kept (fun k => some k = v.ownBlock) w w'
theorem sort_any {base : Nat} {w : World} {v : Value} {l : List ByteArray} (h : Own Rd.str (fun _ => True) w base 9 v l) (hlen : l.length ≤ 100000) :
    Calls Tryz.prog 9 #[v] w (SortPost base v (sortB l) w) := by
  obtain ⟨xs, ho, hr⟩ := h
  obtain ⟨rfl, hsz⟩ := rows_strs hr
  have hsz2 : ∀ s ∈ sortB l, s.size ≤ maxTx := fun s hs => hsz s (sortB_mem hs)
  rcases ho.2 with ⟨rfl, hx⟩ | ⟨g, cap, cur, rfl, hbase, hb, h1, h2, h3, h4⟩
  · have hl : l = [] := by cases l with
      | nil => rfl
      | cons a r => simp at hx
    subst hl
    refine (show Calls Tryz.prog 9 #[.slice none 0 0] w _ from AnyM.slices_Sort_string_none Tryz.sortS none 0 w).mono ?_
    rintro e w' ⟨rfl, rfl⟩
    exact ⟨rfl, by rw [show sortB [] = [] by simp [sortB]]; exact Own.nil _ _ _ _ _, Kept.refl _ _⟩
  · have hll : (l.map (fun s => s.data.toList)).length = l.length := by simp
    have hH : Holds encStr w g 0 (l.map (fun s => s.data.toList)).toArray := holds_of_block hb (by rw [hll, enc_strs]; have h5 := h4; rw [show l.length * Rd.str.n = l.length from Nat.mul_one _] at h5; exact h5)
    have hc := AnyM.slices_Sort_string Tryz.sortS g 0 cap (l.map (fun s => s.data.toList)) w hH (Array.getElem?_eq_some_iff.1 hb).1 (by rw [hll]; omega)
    rw [hll] at hc
    refine (show Calls Tryz.prog 9 #[.slice (some ⟨g, 0, none⟩) l.length cap] w _ from hc).mono ?_
    rintro e w' ⟨rfl, n, os, rfl⟩
    have hs := ownsRow_sorted (n := n) (os := os) (w := w) (base := base) (g := g) (cap := cap) (e := 9) (cur := cur) (ss := l.map (fun s => s.data.toList)) (ts := (l.map (fun s => s.data.toList)).mergeSort (fun x y => decide (x ≤ y))) (by simp) hbase hb (by rw [hll]; exact h1) h2 (by rw [h3]; rfl)
    rw [hll] at hs
    refine ⟨rfl, ⟨_, ?_, strs_rows _ _ (sortB l) hsz2⟩, Kept.of_grown (grownBy_sorted _)⟩
    rw [← enc_strs, show (sortB l).map (fun s => s.data.toList) = (l.map (fun s => s.data.toList)).mergeSort (fun x y => decide (x ≤ y)) by simp [sortB, List.map_map, Function.comp_def]]
    rw [sortB_len]
    exact hs
end Go.Proofs.YtefefpiealknlaaGreatDoor
