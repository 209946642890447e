/- Sync, Crash. -/
import Derived.Test.YtaljgcdjkmpljaaDoorPl3
namespace Go.Proofs.YtaljgcdjkmpljaaDoor
open Go.RowKit Lift
set_option linter.unusedSimpArgs false
set_option linter.unusedVariables false

theorem setCell_self {w : World} {b o : Nat} {v : Value} (h : w.cell? ⟨b, o, none⟩ = some v) : w.setCell ⟨b, o, none⟩ v = w := by
  have e : w.heap.modify b (fun
      | .cells c elem frozen => .cells (if (⟨b, o, none⟩ : Addr).spot.isSome then c else c.setIfInBounds o v) elem frozen
      | o => o) = w.heap := by
    apply Array.ext_getElem?
    intro i
    rw [Array.getElem?_modify]
    by_cases hi : b = i
    · subst hi
      rw [if_pos rfl]
      cases hq : w.heap[b]? with
      | none => rfl
      | some ob =>
        simp only [World.cell?, hq] at h
        cases ob with
        | cells c t fr =>
          simp only [Option.map_some, Option.some.injEq]
          have hc : c[o]? = some v := by simpa using h
          have : c.setIfInBounds o v = c := by
            apply Array.ext_getElem?
            intro j
            rw [Array.getElem?_setIfInBounds]
            split
            · rename_i hj; subst hj; rw [hc]; simp [(Array.getElem?_eq_some_iff.1 hc).1]
            · rfl
          simp [this]
        | _ => rfl
    · rw [if_neg hi]
  have e2 : ∀ H, H = w.heap → ({ w with heap := H } : World) = w := by rintro _ rfl; rfl
  exact e2 _ e
theorem setCells_self : ∀ (vs : List Value) {w : World} {b o : Nat}, w.rangeAt b o vs → w.setCells b o vs = w
  | [], w, b, o, _ => rfl
  | v :: r, w, b, o, h => by
    have h0 : w.cell? ⟨b, o, none⟩ = some v := h 0 v rfl
    rw [World.setCells, setCell_self h0]
    exact setCells_self r (fun j u hu => by have := h (j + 1) u (by simpa using hu); rwa [show o + (j + 1) = o + 1 + j by omega] at this)
theorem setCells_app (b : Nat) : ∀ (xs ys : List Value) (o : Nat) (w : World), w.setCells b o (xs ++ ys) = (w.setCells b o xs).setCells b (o + xs.length) ys
  | [], ys, o, w => rfl
  | v :: r, ys, o, w => by
    simp only [List.cons_append, World.setCells, List.length_cons]
    rw [setCells_app b r ys (o + 1), show o + 1 + r.length = o + (r.length + 1) by omega]
/-- A part of a range is stored: as if the whole range were. -/
theorem setCells_part {w : World} {b o f : Nat} {old news : List Value} (h : w.rangeAt b o old) (hf : f + news.length ≤ old.length) :
    w.setCells b (o + f) news = w.setCells b o (old.take f ++ news ++ old.drop (f + news.length)) := by
  have hl : (old.take f).length = f := by simp; omega
  have h1 : w.rangeAt b o (old.take f) := fun j v hv => h j v (by
    have hj := (List.getElem?_eq_some_iff.1 hv).1
    rw [hl] at hj
    rwa [List.getElem?_take_of_lt hj] at hv)
  have h2 : w.rangeAt b (o + (f + news.length)) (old.drop (f + news.length)) := fun j v hv => by
    rw [List.getElem?_drop] at hv
    have := h _ v hv
    rwa [show o + (f + news.length + j) = o + (f + news.length) + j by omega] at this
  rw [setCells_app, setCells_app, setCells_self _ h1, hl]
  rw [show o + (old.take f ++ news).length = o + (f + news.length) by rw [List.length_append, hl]]
  refine (setCells_self _ ?_).symm
  exact World.rangeAt_setCells_apart h2 b (o + f) news (.inr (.inr (by omega)))

def syncE (st : St) : Int := if st.off then 12 else burnE st
def syncS (st : St) : St := if st.off then st else if burnE st = 0 then { burnS st with su := settL st.no st.lo st.su, lo := [] } else burnS st
set_option maxHeartbeats 1000000 in
set_option maxRecDepth 100000 in
theorem sync_any {base : Nat} {w : World} {F : Fp} {st : St} (h : Raw base w F st) (hll : st.lo.length ≤ 1000000000) :
    Calls Tryd.prog 38 #[.pointer (some ⟨F.b, 0, none⟩)] w (PlPost base F (syncS st) (.int .i64 (syncE st)) w) := by
  have c4 := h.cells.2.2.2.2
  have HB := Lib.hid (burn_any h)
  have H := Lib.hid h
  unfold syncE syncS
  cases ho : st.off with
  | true =>
    rw [ho] at c4
    simp only [↓reduceIte]
    clear h ho
    go_enter Tryd.func38, Tryd.ntmps38
    go_wp2_with fail
    go_ret
    exact PlPost.same rfl H.out (Kept.refl _ _)
  | false =>
    rw [ho] at c4
    simp only [↓reduceIte, Bool.false_eq_true]
    by_cases hb : burnE st = 0
    · rw [if_pos hb, hb]
      rw [hb] at HB
      have e : ({ burnS st with su := settL st.no st.lo st.su, lo := [] } : St) = { burnS st with su := settL (burnS st).no (burnS st).lo (burnS st).su, lo := [] } := by rw [burnS_same.1, burnS_same.2.1, burnS_same.2.2]
      rw [e]
      have hll1 : (burnS st).lo.length ≤ 1000000000 := by rw [burnS_same.2.2]; exact hll
      generalize burnS st = st1 at *
      clear h ho hb e hll H
      go_enter Tryd.func38, Tryd.ntmps38
      go_wp2_with (first
        | ((with_reducible refine (HB.out).mono ?_); rintro e w1 ⟨rfl, hR, hK⟩)
        | ((with_reducible refine (settle_any hR hll1).mono ?_); rintro e w2 ⟨rfl, hR2, hK2⟩))
      go_ret
      refine ⟨_, rfl, hR2, rfl, ?_, (foot_b hK).trans hK2 (fun _ _ h => h) (fun _ _ h => h)⟩
      rintro j (rfl | rfl | rfl | hj)
      · exact .inl (.inl rfl)
      · exact .inl (.inr (.inl rfl))
      · exact .inl (.inr (.inr (.inl rfl)))
      · cases hj
    · rw [if_neg hb]
      have hne : (burnE st == 0) = false := by simpa using hb
      have hne2 : (burnE st != 0) = true := by simpa using hb
      generalize burnE st = y at *
      clear h ho hb H
      go_enter Tryd.func38, Tryd.ntmps38
      go_wp2_with ((with_reducible refine (HB.out).mono ?_); rintro e w1 ⟨rfl, hR, hK⟩)
      go_ret
      exact PlPost.same rfl hR (foot_b hK)

/-- How much of a write is kept. -/
def kOf (keep : List Int) (i : Nat) : Nat := if i < keep.length then (((keep.getD i 0) % 18446744073709551616) % 129).toNat else 0
def tear (old new : List UInt8) (k : Nat) : List UInt8 := if k ≤ 64 then new.take k ++ old.drop k else old.take (128 - k) ++ new.drop (128 - k)
theorem tear_len {old new : List UInt8} {k : Nat} (h1 : old.length = 64) (h2 : new.length = 64) : (tear old new k).length = 64 := by
  unfold tear; split <;> simp <;> omega
def tearL (keep : List Int) : Nat → List Wr → Secs → Secs
  | _, [], no => no
  | i, x :: r, no => tearL keep (i + 1) r (no.set x.1 (tear (no.getD x.1 []) x.2 (kOf keep i)))
theorem tearL_snoc (keep : List Int) (x : Wr) : ∀ (l : List Wr) (i : Nat) (no : Secs), tearL keep i (l ++ [x]) no = (tearL keep i l no).set x.1 (tear ((tearL keep i l no).getD x.1 []) x.2 (kOf keep (i + l.length)))
  | [], i, no => by simp [tearL]
  | y :: r, i, no => by
    simp only [List.cons_append, tearL, List.length_cons]
    rw [tearL_snoc keep x r, show i + 1 + r.length = i + (r.length + 1) by omega]
/-- A part of a sector is stored. -/
theorem Raw.part {base : Nat} {w : World} {F : Fp} {st : St} (h : Raw base w F st) {k f : Nat} (hk : k < st.no.length) {old news : List UInt8} (ho : st.no[k]? = some old) (hf : f + news.length ≤ 64) :
    Raw base (w.setCells F.m (k * 64 + f) (Cs news)) F { st with no := st.no.set k (old.take f ++ news ++ old.drop (f + news.length)) } ∧ Kept (fun j => j = F.m) w (w.setCells F.m (k * 64 + f) (Cs news)) := by
  obtain ⟨h1, h2, h3⟩ := own_sec h.own2 ho
  rw [setCells_part h1 (by rw [cs_len, cs_len, h3]; exact hf)]
  have e : (Cs old).take f ++ Cs news ++ (Cs old).drop (f + (Cs news).length) = Cs (old.take f ++ news ++ old.drop (f + news.length)) := by
    rw [cs_len]; simp [Lib.byteCells, List.map_take, List.map_drop]
  rw [e]
  exact h.setN hk (by simp; omega)
end Go.Proofs.YtaljgcdjkmpljaaDoor
