/- A card as lines, and what is wrong with it: plain (no program in sight). -/
import Derived.Test.YtcfbmfcobpfcjaaDoorVcDeep
import Derived.Test.YtcfbmfcobpfcjaaDoorVcChk
import Derived.Test.YtcfbmfcobpfcjaaDoorVcVal
import Derived.Test.YtcfbmfcobpfcjaaDoorVcSix
import Derived.Test.YtcfbmfcobpfcjaaDoorVcJoin
import Derived.Test.YtcfbmfcobpfcjaaDoorPrPrint
import Derived.Test.YtcfbmfcobpfcjaaDoorFold2
import Derived.Test.YtcfbmfcobpfcjaaDoorQuoRef
namespace Go.Proofs.YtcfbmfcobpfcjaaDoor
open Go.RowKit Lift
set_option linter.unusedSimpArgs false
set_option linter.unusedVariables false

def kBegin : ByteArray := ⟨#[66, 69, 71, 73, 78, 58, 86, 67, 65, 82, 68]⟩
def kVersion : ByteArray := ⟨#[86, 69, 82, 83, 73, 79, 78, 58, 50, 46, 49]⟩
def kEndC : ByteArray := ⟨#[69, 78, 68, 58, 86, 67, 65, 82, 68]⟩
def kUtf : ByteArray := ⟨#[85, 84, 70, 45, 56]⟩
/-- Pieces, a blank ahead of each. -/
def gapL (l : List ByteArray) : List UInt8 := l.flatMap fun s => 32 :: s.data.toList
theorem gapL_snoc (l : List ByteArray) (c : ByteArray) : gapL (l ++ [c]) = gapL l ++ (32 :: c.data.toList) := by simp [gapL]
theorem gapL_len : ∀ l : List ByteArray, (gapL l).length = sumB l + l.length
  | [] => rfl
  | c :: r => by
    have h := gapL_len r
    simp only [gapL, sumB, List.flatMap_cons, List.map_cons, List.sum_cons, List.length_append, List.length_cons] at *
    have : c.data.toList.length = c.size := by simp
    rw [h, this]; omega
/-- How a property's parameters and value are written. -/
def rawP (l : List Par) (v : ByteArray) : List Par × ByteArray :=
  if isPlain v = true then (l, v)
  else if isValid v = true then (l ++ [(kChr, kUtf), (kEnc, kQP)], ⟨(encL v.data.toList).toArray⟩)
  else (l ++ [(kEnc, kB64)], ⟨(gapL (chunks 60 (sixB v))).toArray⟩)
/-- A property's line. -/
def lineP (p : CProp) : ByteArray := ⟨(printP p.1 p.2.1 (rawP p.2.2.1 p.2.2.2.1).1 (rawP p.2.2.1 p.2.2.2.1).2 0).1.toArray⟩
def linesP : Nat → Crd → List ByteArray
  | 0, _ => []
  | d + 1, c => [kBegin, kVersion] ++ c.props.flatMap (fun p => foldW (lineP p) 75 ++ p.2.2.2.2.flatMap (linesP d)) ++ [kEndC]
def pieceP (d : Nat) (p : CProp) : List ByteArray := foldW (lineP p) 75 ++ p.2.2.2.2.flatMap (linesP d)
theorem linesP_succ (d : Nat) (c : Crd) : linesP (d + 1) c = [kBegin, kVersion] ++ c.props.flatMap (pieceP d) ++ [kEndC] := rfl
/-- The first that is not 0. -/
def firstE : List Int → Int
  | [] => 0
  | e :: r => if e = 0 then firstE r else e
theorem firstE_app (a b : List Int) : firstE (a ++ b) = if firstE a = 0 then firstE b else firstE a := by
  induction a with
  | nil => simp [firstE]
  | cons x r ih =>
    simp only [List.cons_append, firstE]
    by_cases h : x = 0
    · simp [h, ih]
    · simp [h]
def chkQ (p : CProp) : Int := chkC p.1 p.2.1 p.2.2.1 p.2.2.2.1 p.2.2.2.2.length
def chkN : Nat → Crd → Int
  | 0, _ => 0
  | d + 1, c => if 24 < c.props.length then 4 else firstE (c.props.map (fun p => if chkQ p = 0 then firstE (p.2.2.2.2.map (chkN d)) else chkQ p))
def errP (d : Nat) (p : CProp) : Int := if chkQ p = 0 then firstE (p.2.2.2.2.map (chkN d)) else chkQ p
theorem chkN_succ (d : Nat) (c : Crd) : chkN (d + 1) c = if 24 < c.props.length then 4 else firstE (c.props.map (errP d)) := rfl
theorem firstE_snoc {α : Type} (f : α → Int) {l : List α} {k : Nat} {c : α} (h : l[k]? = some c) (h0 : firstE ((l.take k).map f) = 0) : firstE ((l.take (k + 1)).map f) = f c := by
  rw [take_at2 h, List.map_append, firstE_app, if_pos h0]
  simp only [List.map_cons, List.map_nil, firstE]
  split
  · rename_i e; exact e.symm
  · rfl
theorem firstE_stop {α : Type} (f : α → Int) {l : List α} {k : Nat} {c : α} (h : l[k]? = some c) (h0 : firstE ((l.take k).map f) = 0) (hc : f c ≠ 0) : firstE (l.map f) = f c := by
  have h1 := firstE_snoc f h h0
  rw [← List.take_append_drop (k + 1) l, List.map_append, firstE_app, h1, if_neg hc]
theorem firstE_go {α : Type} (f : α → Int) {l : List α} {k : Nat} {c : α} (h : l[k]? = some c) (h0 : firstE ((l.take k).map f) = 0) (hc : f c = 0) : firstE ((l.take (k + 1)).map f) = 0 := (firstE_snoc f h h0).trans hc

theorem foldS_len (W : Nat) : ∀ (f : Nat) (s : ByteArray), (foldS W f s).length ≤ f + 1
  | 0, s => by simp [foldS]
  | f + 1, s => by
    have ih := foldS_len W f
    unfold foldS
    split
    · rw [List.length_cons]; have := ih (s.extract ((cutAt W s).toNat + 1) s.size); omega
    · simp
theorem foldS_sum (W : Nat) : ∀ (f : Nat) (s : ByteArray), sumB (foldS W f s) = s.size
  | 0, s => by simp [foldS, sumB]
  | f + 1, s => by
    have ih := foldS_sum W f
    unfold foldS
    split
    · rename_i h
      have hc := cutAt_lt h.1
      have e1 : (s.extract 0 ((cutAt W s).toNat + 1)).size = (cutAt W s).toNat + 1 := by rw [ByteArray.size_extract]; omega
      have e2 : (s.extract ((cutAt W s).toNat + 1) s.size).size = s.size - ((cutAt W s).toNat + 1) := by rw [ByteArray.size_extract]; omega
      have e3 := ih (s.extract ((cutAt W s).toNat + 1) s.size)
      unfold sumB at e3 ⊢
      rw [List.map_cons, List.sum_cons, e3, e1, e2]; omega
    · simp [sumB]
theorem flat_len {l : List Par} (h : ∀ c ∈ l, (parL c).length ≤ 66) : (l.flatMap parL).length ≤ 66 * l.length := by
  induction l with
  | nil => simp
  | cons a t ih =>
    rw [List.flatMap_cons, List.length_append, List.length_cons]
    have h1 := h a (List.mem_cons_self ..)
    have h2 := ih (fun c hc => h c (List.mem_cons_of_mem _ hc))
    omega
theorem printP_len (g n : ByteArray) (l : List Par) (v : ByteArray) (na : Nat) : (printP g n l v na).1.length ≤ 2900 := by
  unfold printP
  split
  · rename_i h
    obtain ⟨h1, h2, h3, h4, h5, h6, h7⟩ := chk_ok h
    have hn := fits_le (isName_fits h2)
    have hg : g.size ≤ 32 := by
      rcases h1 with h1 | h1
      · omega
      · exact (fits_le (isName_fits h1)).2
    have p1 := preL_len hg
    have p2 := flat_len (fun c hc => parL_len (h4 c hc))
    have p3 : n.data.toList.length = n.size := by simp
    have p4 : v.data.toList.length = v.size := by simp
    unfold lineL
    simp only [List.length_append, List.length_cons, List.length_nil]
    omega
  · simp
theorem lineP_len (p : CProp) : (lineP p).size ≤ 2900 := printP_len _ _ _ _ _
theorem fold75_len (p : CProp) : (foldW (lineP p) 75).length ≤ 2901 := by
  have h1 := foldS_len 75 (lineP p).size (lineP p)
  have h2 := lineP_len p
  unfold foldW
  rw [show (max (75 : Int) 2).toNat = 75 by decide]
  omega
theorem fold75_sum (p : CProp) : sumB (foldW (lineP p) 75) ≤ 2900 := by
  have h1 := foldS_sum 75 (lineP p).size (lineP p)
  have h2 := lineP_len p
  unfold foldW
  rw [show (max (75 : Int) 2).toNat = 75 by decide]
  omega
/-- How many lines, and bytes, so many cards within one another have at most. -/
def bud : Nat → Nat
  | 0 => 0
  | k + 1 => 40 + 24 * (2901 + bud k)
theorem bud_mono {k : Nat} (h : k ≤ 3) : bud k ≤ 43500000 := by
  rcases (by omega : k = 0 ∨ k = 1 ∨ k = 2 ∨ k = 3) with rfl | rfl | rfl | rfl <;> decide
theorem deep_pos : ∀ (m : Nat) (c : Crd), 1 ≤ deepN m c
  | 0, c => by simp [deepN]
  | m + 1, c => by
    rw [deepN_succ]
    unfold deepP
    have hA : ∀ (l : List Crd) (n : Nat), n ≤ deepA m n l := fun l => by
      induction l with
      | nil => intro n; simp [deepA]
      | cons a t ih =>
        intro n
        have := ih (max n (1 + deepN m a))
        unfold deepA at this ⊢
        rw [List.foldl_cons]; omega
    have hP : ∀ (l : List CProp) (n : Nat), n ≤ l.foldl (fun n p => deepA m n p.2.2.2.2) n := fun l => by
      induction l with
      | nil => intro n; simp
      | cons a t ih =>
        intro n
        have h1 := hA a.2.2.2.2 n
        have h2 := ih (deepA m n a.2.2.2.2)
        rw [List.foldl_cons]; omega
    exact hP _ _
theorem deepA_ge (m : Nat) : ∀ (l : List Crd) (n : Nat), n ≤ deepA m n l ∧ ∀ a ∈ l, 1 + deepN m a ≤ deepA m n l
  | [], n => by simp [deepA]
  | a :: t, n => by
    have ih := deepA_ge m t (max n (1 + deepN m a))
    have e : deepA m n (a :: t) = deepA m (max n (1 + deepN m a)) t := rfl
    rw [e]
    refine ⟨by omega, fun x hx => ?_⟩
    rcases List.mem_cons.1 hx with rfl | hx
    · omega
    · exact ih.2 x hx
theorem deepP_ge (m : Nat) : ∀ (l : List CProp) (n : Nat), n ≤ deepP m n l ∧ ∀ p ∈ l, ∀ a ∈ p.2.2.2.2, 1 + deepN m a ≤ deepP m n l
  | [], n => by simp [deepP]
  | p :: t, n => by
    have h1 := deepA_ge m p.2.2.2.2 n
    have ih := deepP_ge m t (deepA m n p.2.2.2.2)
    have e : deepP m n (p :: t) = deepP m (deepA m n p.2.2.2.2) t := rfl
    rw [e]
    refine ⟨by omega, fun x hx a ha => ?_⟩
    rcases List.mem_cons.1 hx with rfl | hx
    · have := h1.2 a ha; omega
    · exact ih.2 x hx a ha
/-- A card with so many within one another at most. -/
def Shal (k : Nat) (c : Crd) : Prop := ∃ m, k ≤ m ∧ deepN m c ≤ k
theorem Shal.pos {k : Nat} {c : Crd} (h : Shal k c) : ∃ k', k = k' + 1 := by
  obtain ⟨m, hm, hd⟩ := h
  have := deep_pos m c
  exact ⟨k - 1, by omega⟩
theorem Shal.sub {k : Nat} {c a : Crd} {p : CProp} (h : Shal (k + 1) c) (hp : p ∈ c.props) (ha : a ∈ p.2.2.2.2) : Shal k a := by
  obtain ⟨m, hm, hd⟩ := h
  obtain ⟨m', rfl⟩ : ∃ m', m = m' + 1 := ⟨m - 1, by omega⟩
  rw [deepN_succ] at hd
  have := (deepP_ge m' c.props 1).2 p hp a ha
  exact ⟨m', by omega, by omega⟩
theorem sumB_app (a b : List ByteArray) : sumB (a ++ b) = sumB a + sumB b := by simp [sumB]
theorem chkQ_one {p : CProp} (h : chkQ p = 0) : p.2.2.2.2.length ≤ 1 ∧ p.2.2.2.1.size ≤ 600 ∧ p.2.2.1.length ≤ 4 := by
  unfold chkQ chkC at h
  split at h
  · split at h
    · cases h
    rename_i h4
    split at h
    · cases h
    split at h
    · cases h
    split at h
    · cases h
    rename_i h6
    split at h
    · cases h
    rename_i hk
    refine ⟨?_, by omega, by omega⟩
    have : ¬ 2 ≤ p.2.2.2.2.length := fun h2 => hk (by
      unfold badKind
      rw [decide_eq_false (show ¬ p.2.2.2.2.length = 1 by omega), decide_eq_true (show 0 < p.2.2.2.2.length by omega)]
      cases decide (p.2.1 = kAge) <;> rfl)
    omega
  · rename_i hx; exact absurd h hx
/-- How much a card's lines are. -/
theorem linesP_bound : ∀ (d k : Nat) (c : Crd), Shal k c → chkN d c = 0 → (linesP d c).length ≤ bud k ∧ sumB (linesP d c) ≤ bud k
  | 0, k, c, hs, h0 => by simp [linesP, sumB]
  | d + 1, k, c, hs, h0 => by
    obtain ⟨k', rfl⟩ := hs.pos
    rw [chkN_succ] at h0
    split at h0
    · cases h0
    rename_i h24
    have hE : ∀ (l : List CProp), (∀ p ∈ l, p ∈ c.props) → firstE (l.map (errP d)) = 0 → (l.flatMap (pieceP d)).length ≤ l.length * (2901 + bud k') ∧ sumB (l.flatMap (pieceP d)) ≤ l.length * (2901 + bud k') := by
      intro l
      induction l with
      | nil => intro _ _; simp [sumB]
      | cons p t ih =>
        intro hm he
        rw [List.map_cons, firstE] at he
        split at he
        · rename_i hp0
          have h1 := ih (fun q hq => hm q (List.mem_cons_of_mem _ hq)) he
          have h2 : (pieceP d p).length ≤ 2901 + bud k' ∧ sumB (pieceP d p) ≤ 2901 + bud k' := by
            unfold errP at hp0
            split at hp0
            · rename_i hq
              have hone := (chkQ_one hq).1
              have f1 := fold75_len p
              have f2 := fold75_sum p
              unfold pieceP
              rw [List.length_append, sumB_app]
              rcases hag : p.2.2.2.2 with _ | ⟨a, r⟩
              · simp [sumB]; unfold sumB at f2; omega
              · have hr : r = [] := by
                  rw [hag] at hone; simp at hone; exact hone
                subst hr
                rw [hag] at hp0
                have ha0 : chkN d a = 0 := by
                  simp only [List.map_cons, List.map_nil, firstE] at hp0
                  split at hp0
                  · rename_i e; exact e
                  · exact hp0
                have := linesP_bound d k' a (hs.sub (hm p (List.mem_cons_self ..)) (by rw [hag]; exact List.mem_cons_self ..)) ha0
                simp only [List.flatMap_cons, List.flatMap_nil, List.append_nil]
                omega
            · rename_i hq; exact absurd hp0 hq
          rw [List.flatMap_cons, List.length_append, sumB_app, List.length_cons, Nat.succ_mul]
          omega
        · rename_i hp0; exact absurd he hp0
    have h3 := hE c.props (fun p hp => hp) h0
    have h5 : c.props.length * (2901 + bud k') ≤ 24 * (2901 + bud k') := Nat.mul_le_mul_right _ (by omega)
    rw [linesP_succ, sumB_app, sumB_app]
    simp only [List.length_append, List.length_cons, List.length_nil]
    have e1 : sumB [kBegin, kVersion] = 22 := by decide
    have e2 : sumB [kEndC] = 9 := by decide
    rw [e1, e2]
    unfold bud
    omega
end Go.Proofs.YtcfbmfcobpfcjaaDoor
