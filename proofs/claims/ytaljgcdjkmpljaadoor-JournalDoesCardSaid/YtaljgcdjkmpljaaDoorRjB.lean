/- Both plates and both journals side by side. -/
import Derived.Test.YtaljgcdjkmpljaaDoorRjA
import Derived.Test.YtaljgcdjkmpljaaDoorJnF
import Derived.Test.YtaljgcdjkmpljaaDoorJnG
import Derived.Test.YtaljgcdjkmpljaaDoorOrdGuard
import Derived.Deep.CutBlock
import Derived.Deep.CutRange
namespace Go.Proofs.YtaljgcdjkmpljaaDoor
open Go.RowKit Lift
set_option linter.unusedSimpArgs false
set_option linter.unusedVariables false

/-! ### The program's side: a plate, and a journal if there is one -/
abbrev PJ := Option (JF × JSt)
def PS (base : Nat) (w : World) (F : Fp) (st : St) : PJ → Prop
  | none => Raw base w F st
  | some (J, js) => JRaw base w F st J js
def pfoot (F : Fp) : PJ → Nat → Prop
  | none => foot F
  | some (J, _) => jfoot F J
/-- A step of the program's side. -/
def PStep (base : Nat) (F : Fp) (jo : PJ) (st' : St) (jo' : PJ) (w w' : World) : Prop := ∃ F', PS base w' F' st' jo' ∧ F'.b = F.b ∧ (∀ k, pfoot F' jo' k → pfoot F jo k ∨ w.heap.size ≤ k) ∧ Kept (pfoot F jo) w w'
section
variable {base : Nat} {w w' : World} {F : Fp} {st st' : St} {jo jo' : PJ} {J : JF} {js : JSt} {v : Value} {e : Ending}
theorem PS.raw (h : PS base w F st jo) : Raw base w F st := by
  cases jo with
  | none => exact h
  | some p => exact JRaw.raw h
theorem pfoot_raw {k : Nat} (h : foot F k) : pfoot F jo k := by
  cases jo with
  | none => exact h
  | some p => exact .inl h
theorem PS.inb (h : PS base w F st jo) : ∀ k, pfoot F jo k → k < w.heap.size := by
  cases jo with
  | none => exact Raw.inb h
  | some p => exact JRaw.inb h
theorem PS.ge (h : PS base w F st jo) : ∀ k, pfoot F jo k → base ≤ k := by
  cases jo with
  | none => exact Raw.ge h
  | some p => exact JRaw.ge h
theorem PS.kept {X : Nat → Prop} (h : PS base w F st jo) (hk : Kept X w w') (hx : ∀ k, pfoot F jo k → ¬ X k) : PS base w' F st jo := by
  cases jo with
  | none => exact Raw.kept h hk hx
  | some p => exact JRaw.kept h hk hx
theorem PS.below (h : PS base w F st jo) (hb : Below w.heap.size w w') : PS base w' F st jo := h.kept (Kept.of_below hb (fun _ => False)) (fun _ _ h => h)
/-- A step of the plate alone. -/
theorem PS.plate (h : PS base w F st jo) {F' : Fp} (hR : Raw base w' F' st') (hb : F'.b = F.b) (hf : ∀ k, foot F' k → foot F k ∨ w.heap.size ≤ k) (hk : Kept (foot F) w w') (hl : st'.no.length = st.no.length) : PStep base F jo st' jo w w' := by
  cases jo with
  | none => exact ⟨F', hR, hb, hf, hk⟩
  | some p =>
    refine ⟨F', JRaw.plate h hR hb hf hk hl, hb, fun k hx => ?_, hk.wide (fun k _ h => .inl h)⟩
    rcases hx with hx | hx
    · exact (hf k hx).imp .inl id
    · exact .inl (.inr hx)
theorem PS.post (h : PS base w F st jo) (hp : PlPost base F st' v w e w') (hl : st'.no.length = st.no.length) : e = .returned v ∧ PStep base F jo st' jo w w' := by
  obtain ⟨F', he, hR, hb, hf, hk⟩ := hp
  exact ⟨he, h.plate hR hb hf hk hl⟩
theorem PS.void {F' : Fp} (h : PS base w F st jo) (hp : VoidRaw base F F' st' w e w') (hb : F'.b = F.b) (hf : ∀ k, foot F' k → foot F k ∨ w.heap.size ≤ k) (hl : st'.no.length = st.no.length) : e = .returned (.tuple #[]) ∧ PStep base F jo st' jo w w' := by
  obtain ⟨he, hR, hk⟩ := hp
  exact ⟨he, h.plate hR hb hf hk hl⟩
theorem JPost.step (hp : JPost base F J st' js v w e w') {js0 : JSt} : e = .returned v ∧ ∃ J', J'.b = J.b ∧ PStep base F (some (J, js0)) st' (some (J', js)) w w' := by
  obtain ⟨F', J', he, hj, h1, h2, h3, hk⟩ := hp
  exact ⟨he, J', h2, F', hj, h1, h3, hk⟩
/-- A journal that was made takes the old one's place. -/
theorem MadePost.step {er : Int} (hp : MadePost base F st' er js w e w') : (er = 0 ∧ ∃ J', e = .returned (.tuple #[.pointer (some ⟨J'.b, 0, none⟩), .int .i64 0]) ∧ PStep base F none st' (some (J', js)) w w') ∨ (er ≠ 0 ∧ e = .returned (.tuple #[.pointer none, .int .i64 er]) ∧ PStep base F none st' none w w') := by
  unfold MadePost at hp
  split at hp
  · rename_i h0
    obtain ⟨F', J', he, hj, hb, hf, hk⟩ := hp
    exact .inl ⟨h0, J', he, F', hj, hb, hf, hk⟩
  · rename_i h0
    obtain ⟨he, F', hR, hb, hf, hk⟩ := hp
    exact .inr ⟨h0, he, F', hR, hb, hf, hk⟩
theorem PStep.drop (h : PStep base F none st' jo' w w') (jo : PJ) : PStep base F jo st' jo' w w' := by
  obtain ⟨F', h1, h2, h3, h4⟩ := h
  exact ⟨F', h1, h2, fun k hk => (h3 k hk).imp pfoot_raw id, h4.wide (fun k _ h => pfoot_raw h)⟩
end
/-! ### The document's side -/
def RS (base : Nat) (w : World) (R : RF) (st : St) (a : Nat) : PJ → Prop
  | none => RP base w R st
  | some (J, js) => RJ base w R st J a js
def qfoot (R : RF) : PJ → Nat → Prop
  | none => rfoot R
  | some (J, _) => rjfoot R J
def RStep (base : Nat) (R : RF) (a : Nat) (jo : PJ) (st' : St) (jo' : PJ) (w w' : World) : Prop := ∃ R', RS base w' R' st' a jo' ∧ R'.b = R.b ∧ (∀ k, qfoot R' jo' k → qfoot R jo k ∨ w.heap.size ≤ k) ∧ Kept (qfoot R jo) w w'
section
variable {base : Nat} {w w' : World} {R : RF} {st st' : St} {a : Nat} {jo jo' : PJ} {J : JF} {js : JSt} {v : Value} {e : Ending}
theorem RS.rp (h : RS base w R st a jo) : RP base w R st := by
  cases jo with
  | none => exact h
  | some p => exact RJ.rp h
theorem qfoot_raw {k : Nat} (h : rfoot R k) : qfoot R jo k := by
  cases jo with
  | none => exact h
  | some p => exact .inl h
theorem RS.inb (h : RS base w R st a jo) : ∀ k, qfoot R jo k → k < w.heap.size := by
  cases jo with
  | none => exact RP.inb h
  | some p => exact RJ.inb h
theorem RS.ge (h : RS base w R st a jo) : ∀ k, qfoot R jo k → base ≤ k := by
  cases jo with
  | none => exact RP.ge h
  | some p => exact RJ.ge h
theorem RS.kept {X : Nat → Prop} (h : RS base w R st a jo) (hk : Kept X w w') (hx : ∀ k, qfoot R jo k → ¬ X k) : RS base w' R st a jo := by
  cases jo with
  | none => exact RP.kept h hk hx
  | some p => exact RJ.kept h hk hx
theorem RS.below (h : RS base w R st a jo) (hb : Below w.heap.size w w') : RS base w' R st a jo := h.kept (Kept.of_below hb (fun _ => False)) (fun _ _ h => h)
theorem RS.post (h : RS base w R st a jo) (hp : RpPost base R st' v w e w') (hl : st'.no.length = st.no.length) : e = .returned v ∧ RStep base R a jo st' jo w w' := by
  obtain ⟨R', he, hR, hb, hf, hk⟩ := hp
  refine ⟨he, ?_⟩
  cases jo with
  | none => exact ⟨R', hR, hb, hf, hk⟩
  | some p =>
    refine ⟨R', RJ.plate h hR hb hf hk hl, hb, fun k hx => ?_, hk.wide (fun k _ h => .inl h)⟩
    rcases hx with hx | hx
    · exact (hf k hx).imp .inl id
    · exact .inl (.inr hx)
theorem RjPost.step (hp : RjPost base R J a st' js v w e w') {js0 : JSt} : e = .returned v ∧ ∃ J', J'.b = J.b ∧ RStep base R a (some (J, js0)) st' (some (J', js)) w w' := by
  obtain ⟨R', J', he, hj, h1, h2, h3, hk⟩ := hp
  exact ⟨he, J', h2, R', hj, h1, h3, hk⟩
theorem RMade.step {er : Int} (hp : RMade base R st' er a js w e w') : (er = 0 ∧ ∃ J', e = .returned (.tuple #[.pointer (some ⟨J'.b, 0, none⟩), .int .i64 0]) ∧ RStep base R a none st' (some (J', js)) w w') ∨ (er ≠ 0 ∧ e = .returned (.tuple #[.pointer none, .int .i64 er]) ∧ RStep base R a none st' none w w') := by
  unfold RMade at hp
  split at hp
  · rename_i h0
    obtain ⟨R', J', he, hj, hb, hf, hk⟩ := hp
    exact .inl ⟨h0, J', he, R', hj, hb, hf, hk⟩
  · rename_i h0
    obtain ⟨he, R', hR, hb, hf, hk⟩ := hp
    exact .inr ⟨h0, he, R', hR, hb, hf, hk⟩
theorem RStep.drop (h : RStep base R a none st' jo' w w') (jo : PJ) : RStep base R a jo st' jo' w w' := by
  obtain ⟨R', h1, h2, h3, h4⟩ := h
  exact ⟨R', h1, h2, fun k hk => (h3 k hk).imp qfoot_raw id, h4.wide (fun k _ h => qfoot_raw h)⟩
end
/-! ### Both -/
/-- Both side by side; O: blocks that are to be left alone. -/
def Pair (base : Nat) (w : World) (O : Nat → Prop) (pb : Nat) (st : St) (jo : PJ) (rb : Nat) (st2 : St) (a : Nat) (jo2 : PJ) : Prop :=
  ∃ F R, F.b = pb ∧ R.b = rb ∧ PS base w F st jo ∧ RS base w R st2 a jo2 ∧ (∀ k, pfoot F jo k → ¬ qfoot R jo2 k) ∧ ∀ k, O k → ¬ pfoot F jo k ∧ ¬ qfoot R jo2 k ∧ k < w.heap.size
section
variable {base : Nat} {w w' : World} {O O' : Nat → Prop} {pb rb a : Nat} {st st2 st' : St} {jo jo2 jo' : PJ}
theorem Pair.below (h : Pair base w O pb st jo rb st2 a jo2) (hb : Below w.heap.size w w') : Pair base w' O pb st jo rb st2 a jo2 := by
  obtain ⟨F, R, e1, e2, h1, h2, h3, h4⟩ := h
  exact ⟨F, R, e1, e2, h1.below hb, h2.below hb, h3, fun k hk => ⟨(h4 k hk).1, (h4 k hk).2.1, Nat.lt_of_lt_of_le (h4 k hk).2.2 hb.size⟩⟩
theorem Pair.more (h : Pair base w O pb st jo rb st2 a jo2) (hb : Below w.heap.size w w') (hO : ∀ k, O' k → O k ∨ (w.heap.size ≤ k ∧ k < w'.heap.size)) : Pair base w' O' pb st jo rb st2 a jo2 := by
  obtain ⟨F, R, e1, e2, h1, h2, h3, h4⟩ := h
  refine ⟨F, R, e1, e2, h1.below hb, h2.below hb, h3, fun k hk => ?_⟩
  rcases hO k hk with h | ⟨hge, hlt⟩
  · exact ⟨(h4 k h).1, (h4 k h).2.1, Nat.lt_of_lt_of_le (h4 k h).2.2 hb.size⟩
  · exact ⟨fun hf => by have := h1.inb k hf; omega, fun hf => by have := h2.inb k hf; omega, hlt⟩
theorem Pair.less (h : Pair base w O pb st jo rb st2 a jo2) (hO : ∀ k, O' k → O k) : Pair base w O' pb st jo rb st2 a jo2 := by
  obtain ⟨F, R, e1, e2, h1, h2, h3, h4⟩ := h
  exact ⟨F, R, e1, e2, h1, h2, h3, fun k hk => h4 k (hO k hk)⟩
theorem Pair.stepP {F : Fp} {R : RF} (e1 : F.b = pb) (e2 : R.b = rb) (h1 : PS base w F st jo) (h2 : RS base w R st2 a jo2) (h3 : ∀ k, pfoot F jo k → ¬ qfoot R jo2 k) (h4 : ∀ k, O k → ¬ pfoot F jo k ∧ ¬ qfoot R jo2 k ∧ k < w.heap.size) (hS : PStep base F jo st' jo' w w') : Pair base w' O pb st' jo' rb st2 a jo2 ∧ Kept (Free base O) w w' := by
  obtain ⟨F', k1, k2, k3, k4⟩ := hS
  refine ⟨⟨F', R, k2.trans e1, e2, k1, h2.kept k4 (fun k hq hp => h3 k hp hq), fun k hp hq => ?_, fun k hO => ⟨fun hp => ?_, (h4 k hO).2.1, Nat.lt_of_lt_of_le (h4 k hO).2.2 k4.size⟩⟩, k4.wide (fun k _ hf => ⟨h1.ge k hf, fun hO => (h4 k hO).1 hf⟩)⟩
  · rcases k3 k hp with h | h
    · exact h3 k h hq
    · have := h2.inb k hq; omega
  · rcases k3 k hp with h | h
    · exact (h4 k hO).1 h
    · have := (h4 k hO).2.2; omega
theorem Pair.stepR {F : Fp} {R : RF} (e1 : F.b = pb) (e2 : R.b = rb) (h1 : PS base w F st jo) (h2 : RS base w R st2 a jo2) (h3 : ∀ k, pfoot F jo k → ¬ qfoot R jo2 k) (h4 : ∀ k, O k → ¬ pfoot F jo k ∧ ¬ qfoot R jo2 k ∧ k < w.heap.size) (hS : RStep base R a jo2 st' jo' w w') : Pair base w' O pb st jo rb st' a jo' ∧ Kept (Free base O) w w' := by
  obtain ⟨R', k1, k2, k3, k4⟩ := hS
  refine ⟨⟨F, R', e1, k2.trans e2, h1.kept k4 (fun k hp hq => h3 k hp hq), k1, fun k hp hq => ?_, fun k hO => ⟨(h4 k hO).1, fun hq => ?_, Nat.lt_of_lt_of_le (h4 k hO).2.2 k4.size⟩⟩, k4.wide (fun k _ hf => ⟨h2.ge k hf, fun hO => (h4 k hO).2.1 hf⟩)⟩
  · rcases k3 k hq with h | h
    · exact h3 k hp h
    · have := h1.inb k hp; omega
  · rcases k3 k hq with h | h
    · exact (h4 k hO).2.1 h
    · have := (h4 k hO).2.2; omega
end
end Go.Proofs.YtaljgcdjkmpljaaDoor

/- Both plates and both journals: the calls. -/
namespace Go.Proofs.YtaljgcdjkmpljaaDoor
open Go.RowKit Lift
set_option linter.unusedSimpArgs false
set_option linter.unusedVariables false

/-- What a call on the pair leaves. -/
def PairV (base : Nat) (O : Nat → Prop) (pb : Nat) (st : St) (jo : PJ) (rb : Nat) (st2 : St) (a : Nat) (jo2 : PJ) (v : Value) (w : World) (e : Ending) (w' : World) : Prop := e = .returned v ∧ Pair base w' O pb st jo rb st2 a jo2 ∧ Kept (Free base O) w w'
section
variable {base : Nat} {w : World} {O : Nat → Prop} {pb rb a : Nat} {st st2 : St} {jo jo2 : PJ}
theorem pair_put (h : Pair base w O pb st jo rb st2 a jo2) (x : Int) (s : ByteArray) (hs : s.size ≤ maxTx) (hlo : st.lo.length ≤ 1000000000) :
    Calls Tryd.prog 28 #[.pointer (some ⟨pb, 0, none⟩), .int .i64 x, .string s] w (PairV base O pb (putS st x s) jo rb st2 a jo2 (.int .i64 (putE st x s)) w) := by
  obtain ⟨F, R, rfl, rfl, h1, h2, h3, h4⟩ := h
  refine (put_any h1.raw x s hs hlo).mono fun e w' hp => ?_
  obtain ⟨he, hS⟩ := h1.post hp (putS_len st x s)
  exact ⟨he, Pair.stepP rfl rfl h1 h2 h3 h4 hS⟩
theorem pair_rput (h : Pair base w O pb st jo rb st2 a jo2) (x : Int) (s : ByteArray) (hs : s.size ≤ maxTx) (hx : Wf x) (hlo : st2.lo.length ≤ 1000000000) :
    Calls Tryd.prog 29 #[.pointer (some ⟨rb, 0, none⟩), .int .i64 x, .string s] w (PairV base O pb st jo rb (putS st2 x s) a jo2 (.int .i64 (putE st2 x s)) w) := by
  obtain ⟨F, R, rfl, rfl, h1, h2, h3, h4⟩ := h
  refine (h2.rp.put x s hs hx hlo).mono fun e w' hp => ?_
  obtain ⟨he, hS⟩ := h2.post hp (putS_len st2 x s)
  exact ⟨he, Pair.stepR rfl rfl h1 h2 h3 h4 hS⟩
theorem pair_fuse (h : Pair base w O pb st jo rb st2 a jo2) (n : Int) (hn : Wf n) :
    Calls Tryd.prog 14 #[.pointer (some ⟨pb, 0, none⟩), .int .i64 n] w (PairV base O pb (fuseS st n) jo rb st2 a jo2 (.tuple #[]) w) := by
  obtain ⟨F, R, rfl, rfl, h1, h2, h3, h4⟩ := h
  have hn2 := int_i64 hn
  refine (fuse_any h1.raw n hn2.1 hn2.2).mono fun e w' hp => ?_
  obtain ⟨he, hS⟩ := h1.void hp rfl (fun k hk => .inl hk) rfl
  exact ⟨he, Pair.stepP rfl rfl h1 h2 h3 h4 hS⟩
theorem RP.fuse {R : RF} (h : RP base w R st) (n : Int) (hn : Wf n) : Calls Tryd.prog 27 #[.pointer (some ⟨R.b, 0, none⟩), .int .i64 n] w (RpPost base R (fuseS st n) (.tuple #[]) w) := by
  obtain ⟨rs, h1, h2⟩ := h
  exact (fuse_ref h1 n hn).mono fun e w' ⟨R', a, b, c⟩ => ⟨R', a, ⟨_, b, h2.fuse n⟩, c⟩
theorem pair_rfuse (h : Pair base w O pb st jo rb st2 a jo2) (n : Int) (hn : Wf n) :
    Calls Tryd.prog 27 #[.pointer (some ⟨rb, 0, none⟩), .int .i64 n] w (PairV base O pb st jo rb (fuseS st2 n) a jo2 (.tuple #[]) w) := by
  obtain ⟨F, R, rfl, rfl, h1, h2, h3, h4⟩ := h
  refine (h2.rp.fuse n hn).mono fun e w' hp => ?_
  obtain ⟨he, hS⟩ := h2.post hp rfl
  exact ⟨he, Pair.stepR rfl rfl h1 h2 h3 h4 hS⟩
theorem pair_crash {w4 : World} (h : Pair base w4 O pb st jo rb st2 a jo2) (hb : Below w4.heap.size w4 w) (hlo : st.lo.length ≤ 1000000000) (ko : Option Addr) (kcap : Nat) (keep : List Int) (n : Nat) (hn : n = keep.length) (hkl : keep.length ≤ 9223372036854775807) (hk : SlAt (Rd.int .i64) (fun k => w4.heap.size ≤ k) w ko keep) :
    Calls Tryd.prog 19 #[.pointer (some ⟨pb, 0, none⟩), .slice ko n kcap] w (PairV base O pb (crashS st keep) jo rb st2 a jo2 (.tuple #[]) w) := by
  subst hn
  obtain ⟨F, R, rfl, rfl, h1, h2, h3, h4⟩ := h
  have r1 := h1.below hb
  have r2 := h2.below hb
  refine (crash_any r1.raw hlo ko kcap keep hkl (hk.mono (fun k hk _ hf => by have := h1.raw.inb k hf; omega))).mono fun e w' hp => ?_
  obtain ⟨he, hS⟩ := r1.void hp rfl (fun k hk => .inl (foot_nil k hk)) (crash_len st keep)
  exact ⟨he, Pair.stepP rfl rfl r1 r2 h3 (fun k hk => ⟨(h4 k hk).1, (h4 k hk).2.1, Nat.lt_of_lt_of_le (h4 k hk).2.2 hb.size⟩) hS⟩
theorem RP.crash {R : RF} (h : RP base w R st) (hlo : st.lo.length ≤ 1000000000) (ko : Option Addr) (kcap : Nat) (keep : List Int) (hkl : keep.length ≤ 9223372036854775807) (hk : SlAt (Rd.int .i64) (· < base) w ko keep) :
    Calls Tryd.prog 30 #[.pointer (some ⟨R.b, 0, none⟩), .slice ko keep.length kcap] w (RpPost base R (crashS st keep) (.tuple #[]) w) := by
  obtain ⟨rs, h1, h2⟩ := h
  have hll : rs.L.length ≤ 1000000000 := by rw [show rs.L.length = st.lo.length by rw [h2.lo, List.length_map]]; exact hlo
  exact (crash_ref h1 hll ko kcap keep hkl (hk.mono (fun k hk _ hf => by have := h1.ge k hf; omega))).mono fun e w' ⟨R', a, b, c⟩ => ⟨R', a, ⟨_, b, h2.crash keep⟩, c⟩
theorem pair_rcrash (h : Pair base w O pb st jo rb st2 a jo2) (hlo : st2.lo.length ≤ 1000000000) (ko : Option Addr) (kcap : Nat) (keep : List Int) (hkl : keep.length ≤ 9223372036854775807) (hk : SlAt (Rd.int .i64) (· < base) w ko keep) :
    Calls Tryd.prog 30 #[.pointer (some ⟨rb, 0, none⟩), .slice ko keep.length kcap] w (PairV base O pb st jo rb (crashS st2 keep) a jo2 (.tuple #[]) w) := by
  obtain ⟨F, R, rfl, rfl, h1, h2, h3, h4⟩ := h
  refine (h2.rp.crash hlo ko kcap keep hkl hk).mono fun e w' hp => ?_
  obtain ⟨he, hS⟩ := h2.post hp (crash_len st2 keep)
  exact ⟨he, Pair.stepR rfl rfl h1 h2 h3 h4 hS⟩
theorem pair_append {J : JF} {js : JSt} (h : Pair base w O pb st (some (J, js)) rb st2 a jo2) (s : ByteArray) (hs : s.size ≤ maxTx) (hlo : st.lo.length ≤ 1000000) :
    Calls Tryd.prog 10 #[.pointer (some ⟨J.b, 0, none⟩), .string s] w (fun e w' => ∃ J', J'.b = J.b ∧ PairV base O pb (appS st js s) (some (J', appJ st js s)) rb st2 a jo2 (.int .i64 (appE st js s)) w e w') := by
  obtain ⟨F, R, rfl, rfl, h1, h2, h3, h4⟩ := h
  refine (append_any h1 s hs hlo).mono fun e w' hp => ?_
  obtain ⟨he, J', hb, hS⟩ := hp.step (js0 := js)
  exact ⟨J', hb, he, Pair.stepP rfl rfl h1 h2 h3 h4 hS⟩
theorem pair_rappend {J : JF} {js : JSt} (h : Pair base w O pb st jo rb st2 a (some (J, js))) (s : ByteArray) (hs : s.size ≤ maxTx) (hlo : st2.lo.length ≤ 1000000) :
    Calls Tryd.prog 26 #[.pointer (some ⟨J.b, 0, none⟩), .string s] w (fun e w' => ∃ J', J'.b = J.b ∧ PairV base O pb st jo rb (appS st2 js s) a (some (J', appJ st2 js s)) (.int .i64 (appE st2 js s)) w e w') := by
  obtain ⟨F, R, rfl, rfl, h1, h2, h3, h4⟩ := h
  refine (rappend_any h2 s hs hlo).mono fun e w' hp => ?_
  obtain ⟨he, J', hb, hS⟩ := hp.step (js0 := js)
  exact ⟨J', hb, he, Pair.stepR rfl rfl h1 h2 h3 h4 hS⟩
/-- What making a journal leaves on the pair. -/
def PairP (base : Nat) (O : Nat → Prop) (pb : Nat) (st' : St) (er : Int) (js : JSt) (rb : Nat) (st2 : St) (a : Nat) (jo2 : PJ) (w : World) (e : Ending) (w' : World) : Prop :=
  ((er = 0 ∧ ∃ J', e = .returned (.tuple #[.pointer (some ⟨J'.b, 0, none⟩), .int .i64 0]) ∧ Pair base w' O pb st' (some (J', js)) rb st2 a jo2) ∨ (er ≠ 0 ∧ e = .returned (.tuple #[.pointer none, .int .i64 er]) ∧ Pair base w' O pb st' none rb st2 a jo2)) ∧ Kept (Free base O) w w'
def PairR (base : Nat) (O : Nat → Prop) (pb : Nat) (st : St) (jo : PJ) (rb : Nat) (st2' : St) (er : Int) (a : Nat) (js : JSt) (w : World) (e : Ending) (w' : World) : Prop :=
  ((er = 0 ∧ ∃ J', e = .returned (.tuple #[.pointer (some ⟨J'.b, 0, none⟩), .int .i64 0]) ∧ Pair base w' O pb st jo rb st2' a (some (J', js))) ∨ (er ≠ 0 ∧ e = .returned (.tuple #[.pointer none, .int .i64 er]) ∧ Pair base w' O pb st jo rb st2' a none)) ∧ Kept (Free base O) w w'
theorem pair_madeP {F : Fp} {R : RF} {st' : St} {er : Int} {js : JSt} {e : Ending} {w' : World} (h1 : PS base w F st jo) (h2 : RS base w R st2 a jo2) (h3 : ∀ k, pfoot F jo k → ¬ qfoot R jo2 k) (h4 : ∀ k, O k → ¬ pfoot F jo k ∧ ¬ qfoot R jo2 k ∧ k < w.heap.size) (hp : MadePost base F st' er js w e w') : PairP base O F.b st' er js R.b st2 a jo2 w e w' := by
  rcases hp.step with ⟨h0, J', he, hS⟩ | ⟨h0, he, hS⟩
  · obtain ⟨hP, hB⟩ := Pair.stepP rfl rfl h1 h2 h3 h4 (hS.drop jo)
    exact ⟨.inl ⟨h0, J', he, hP⟩, hB⟩
  · obtain ⟨hP, hB⟩ := Pair.stepP rfl rfl h1 h2 h3 h4 (hS.drop jo)
    exact ⟨.inr ⟨h0, he, hP⟩, hB⟩
theorem pair_madeR {F : Fp} {R : RF} {st2' : St} {er : Int} {js : JSt} {e : Ending} {w' : World} (h1 : PS base w F st jo) (h2 : RS base w R st2 a jo2) (h3 : ∀ k, pfoot F jo k → ¬ qfoot R jo2 k) (h4 : ∀ k, O k → ¬ pfoot F jo k ∧ ¬ qfoot R jo2 k ∧ k < w.heap.size) (hp : RMade base R st2' er a js w e w') : PairR base O F.b st jo R.b st2' er a js w e w' := by
  rcases hp.step with ⟨h0, J', he, hS⟩ | ⟨h0, he, hS⟩
  · obtain ⟨hP, hB⟩ := Pair.stepR rfl rfl h1 h2 h3 h4 (hS.drop jo2)
    exact ⟨.inl ⟨h0, J', he, hP⟩, hB⟩
  · obtain ⟨hP, hB⟩ := Pair.stepR rfl rfl h1 h2 h3 h4 (hS.drop jo2)
    exact ⟨.inr ⟨h0, he, hP⟩, hB⟩
theorem pair_format (h : Pair base w O pb st jo rb st2 a jo2) (sz gen : Nat) (k1 : 2 ≤ sz) (k2 : a + sz ≤ st.no.length) (hg : gen < 4294967296) (hlo : st.lo.length ≤ 1000000) :
    Calls Tryd.prog 23 #[.pointer (some ⟨pb, 0, none⟩), .int .i64 a, .int .i64 sz, .int .u32 gen] w (PairP base O pb (runOps st (clearOps a)).1 (runOps st (clearOps a)).2 (JSt.new a sz gen) rb st2 a jo2 w) := by
  obtain ⟨F, R, rfl, rfl, h1, h2, h3, h4⟩ := h
  exact (format_any h1.raw a sz gen k1 k2 hg h1.raw.base_le hlo).mono fun e w' hp => pair_madeP h1 h2 h3 h4 hp
theorem pair_rformat (h : Pair base w O pb st jo rb st2 a jo2) (sz gen : Nat) (k1 : 2 ≤ sz) (k2 : a + sz ≤ st2.no.length) (hg : gen < 4294967296) (hlo : st2.lo.length ≤ 1000000) :
    Calls Tryd.prog 24 #[.pointer (some ⟨rb, 0, none⟩), .int .i64 a, .int .i64 sz, .int .u32 gen] w (PairR base O pb st jo rb (runOps st2 (clearOps a)).1 (runOps st2 (clearOps a)).2 a (JSt.new a sz gen) w) := by
  obtain ⟨F, R, rfl, rfl, h1, h2, h3, h4⟩ := h
  exact (rformat_any h2.rp a sz gen k1 k2 hg hlo).mono fun e w' hp => pair_madeR h1 h2 h3 h4 hp
theorem pair_open (h : Pair base w O pb st jo rb st2 a jo2) (sz gen : Nat) (k1 : 2 ≤ sz) (k2 : a + sz ≤ st.no.length) (hg : gen < 4294967296) (hlo : st.lo.length ≤ 1000000) :
    Calls Tryd.prog 15 #[.pointer (some ⟨pb, 0, none⟩), .int .i64 a, .int .i64 sz, .int .u32 gen] w (PairP base O pb (openR st (JSt.new a sz gen)).1 (openR st (JSt.new a sz gen)).2 (openJ st (JSt.new a sz gen)) rb st2 a jo2 w) := by
  obtain ⟨F, R, rfl, rfl, h1, h2, h3, h4⟩ := h
  exact (open_any h1.raw a sz gen k1 k2 hg h1.raw.base_le hlo).mono fun e w' hp => pair_madeP h1 h2 h3 h4 hp
theorem pair_ropen (h : Pair base w O pb st jo rb st2 a jo2) (sz gen : Nat) (k1 : 2 ≤ sz) (k2 : a + sz ≤ st2.no.length) (hg : gen < 4294967296) (hlo : st2.lo.length ≤ 1000000) :
    Calls Tryd.prog 31 #[.pointer (some ⟨rb, 0, none⟩), .int .i64 a, .int .i64 sz, .int .u32 gen] w (PairR base O pb st jo rb (openR st2 (JSt.new a sz gen)).1 (openR st2 (JSt.new a sz gen)).2 a (openJ st2 (JSt.new a sz gen)) w) := by
  obtain ⟨F, R, rfl, rfl, h1, h2, h3, h4⟩ := h
  exact (ropen_any h2.rp a sz gen k1 k2 hg hlo).mono fun e w' hp => pair_madeR h1 h2 h3 h4 hp
/-! ### Calls that only read -/
theorem pair_image (h : Pair base w O pb st jo rb st2 a jo2) : Calls Tryd.prog 13 #[.pointer (some ⟨pb, 0, none⟩)] w (BelowPost (.string (imageB st.no)) w) := by
  obtain ⟨F, R, rfl, rfl, h1, h2, h3, h4⟩ := h
  exact (image_any h1.raw).mono fun e w' ⟨a, b⟩ => ⟨a, b⟩
theorem pair_rimage (h : Pair base w O pb st jo rb st2 a jo2) (hlo : st2.lo.length ≤ 1000000000) : Calls Tryd.prog 33 #[.pointer (some ⟨rb, 0, none⟩)] w (BelowPost (.string (imageB st2.no)) w) := by
  obtain ⟨F, R, rfl, rfl, h1, h2, h3, h4⟩ := h
  obtain ⟨rs, r1, r2⟩ := h2.rp
  rw [← r2.no]
  exact (image_ref r1 (by rw [show rs.L.length = st2.lo.length by rw [r2.lo, List.length_map]]; exact hlo)).mono fun e w' ⟨a, b⟩ => ⟨a, b⟩
theorem pair_down (h : Pair base w O pb st jo rb st2 a jo2) : Calls Tryd.prog 18 #[.pointer (some ⟨pb, 0, none⟩)] w (BelowPost (.bool st.off) w) := by
  obtain ⟨F, R, rfl, rfl, h1, h2, h3, h4⟩ := h
  exact (down_any h1.raw).mono fun e w' ⟨a, b⟩ => ⟨a, b ▸ Below.refl _ _⟩
theorem pair_off (h : Pair base w O pb st jo rb st2 a jo2) : w.cell? ⟨rb, 4, none⟩ = some (.bool st2.off) := by
  obtain ⟨F, R, rfl, rfl, h1, h2, h3, h4⟩ := h
  exact h2.rp.offc
theorem pair_left {J : JF} {js : JSt} (h : Pair base w O pb st (some (J, js)) rb st2 a jo2) : Calls Tryd.prog 9 #[.pointer (some ⟨J.b, 0, none⟩)] w (BelowPost (.int .i64 (leftI js)) w) := by
  obtain ⟨F, R, rfl, rfl, h1, h2, h3, h4⟩ := h
  exact left_any h1
theorem pair_len {J : JF} {js : JSt} (h : Pair base w O pb st (some (J, js)) rb st2 a jo2) : Calls Tryd.prog 11 #[.pointer (some ⟨J.b, 0, none⟩)] w (BelowPost (.int .i64 js.recs.length) w) := by
  obtain ⟨F, R, rfl, rfl, h1, h2, h3, h4⟩ := h
  exact (len_any h1).mono fun e w' ⟨a, b⟩ => ⟨a, b ▸ Below.refl _ _⟩
theorem pair_all {J : JF} {js : JSt} (h : Pair base w O pb st (some (J, js)) rb st2 a jo2) (k : Nat) (hk : k ≤ 1000) : Calls Tryd.prog 17 #[.pointer (some ⟨J.b, 0, none⟩), .int .i64 k] w (RowPost Rd.str 9 (js.recs.take k) w) := by
  obtain ⟨F, R, rfl, rfl, h1, h2, h3, h4⟩ := h
  exact all_any h1 k hk
theorem pair_rleft {J : JF} {js : JSt} (h : Pair base w O pb st jo rb st2 a (some (J, js))) : Calls Tryd.prog 32 #[.pointer (some ⟨J.b, 0, none⟩)] w (BelowPost (.int .i64 (leftI js)) w) := by
  obtain ⟨F, R, rfl, rfl, h1, h2, h3, h4⟩ := h
  exact rleft_any h2
/-- The document's list of records. -/
theorem pair_list {J : JF} {js : JSt} (h : Pair base w O pb st jo rb st2 a (some (J, js))) : ∃ ao cap, J.lv = .slice ao js.recs.length cap ∧ w.cell? ⟨J.b, 4, none⟩ = some (.slice ao js.recs.length cap) ∧ SlAt Rd.str (· < w.heap.size) w ao js.recs ∧ J.b < w.heap.size := by
  obtain ⟨F, R, rfl, rfl, h1, h2, h3, h4⟩ := h
  have h2' : RJ base w R st2 J a js := h2
  obtain ⟨ao, cap, elv⟩ := h2'.form
  have c4 := h2'.cells.2.2.2.2.1
  have hO := h2'.own
  rw [elv] at c4 hO
  exact ⟨ao, cap, elv, c4, hO.here, h2'.lt⟩
end
end Go.Proofs.YtaljgcdjkmpljaaDoor

/- JournalDoes: which lists of calls are light; how a call lies in memory. -/
namespace Go.Proofs.YtaljgcdjkmpljaaDoor
open Go.RowKit Lift
set_option linter.unusedSimpArgs false
set_option linter.unusedVariables false

def lightJ (l : List Op4) : Prop := l.length ≤ 60 ∧ ∀ c ∈ l, c.2.2.1.size ≤ 2000 ∧ c.2.2.2.length ≤ 100
instance (l : List Op4) : Decidable (lightJ l) := by unfold lightJ; infer_instance
theorem lightJ_take {l : List Op4} {k : Nat} {c : Op4} (h : ∀ c ∈ l.take k, c.2.2.1.size ≤ 2000 ∧ c.2.2.2.length ≤ 100) (hk : l[k]? = some c) (h2 : c.2.2.1.size ≤ 2000 ∧ c.2.2.2.length ≤ 100) : ∀ c ∈ l.take (k + 1), c.2.2.1.size ≤ 2000 ∧ c.2.2.2.length ≤ 100 := by
  rw [take_at2 hk]
  intro d hd
  rcases List.mem_append.1 hd with hd | hd
  · exact h d hd
  · simp at hd; subst hd; exact h2
set_option maxHeartbeats 1000000 in
set_option maxRecDepth 100000 in
theorem lightj_any (ao : Option Addr) (cap : Nat) (l : List Op4) (w : World) (hl : SlAt rOp (· < w.heap.size) w ao l) (hlen : l.length ≤ 9223372036854775807) :
    Calls Tryd.prog 20 #[.slice ao l.length cap] w (BoolPost (decide (lightJ l)) w) := by
  go_enter Tryd.func20, Tryd.ntmps20
  go_wp2_with fail
  go_loop [3] (fun v3 => ∃ k : Nat, k ≤ l.length ∧ k ≤ 60 ∧ v3 = .int .i64 k ∧ Hid (∀ c ∈ l.take k, c.2.2.1.size ≤ 2000 ∧ c.2.2.2.length ≤ 100)) (fun v3 => l.length - (intOf v3).toNat)
  case atStart => exact ⟨0, by omega, by omega, rfl, Lib.hid (by simp)⟩
  case round =>
    obtain ⟨k, hk, hk80, rfl, hI⟩ := hrel
    by_cases hkl : k < l.length
    · obtain ⟨c, hc⟩ := some_at hkl
      obtain ⟨b, off, ko, kcap, rfl, _, hb, _, _, hs1, hkc, hkm, _, x0, x1, x2, x3⟩ := op_get hl hc
      have hkl2 : (k : Int) < (l.length : Int) := by omega
      have HC := Lib.hid hc
      have hmem := List.mem_of_getElem? hc
      have HM := Lib.hid hmem
      clear hc hmem
      unfold maxTx at hs1
      unfold maxLen at hkm
      by_cases h80 : k < 60
      · have hd80 : decide ((60 : Int) ≤ (k : Int)) = false := by simp; omega
        by_cases h300 : c.2.2.1.size ≤ 2000
        · have hd300 : decide ((2000 : Int) < (c.2.2.1.size : Int)) = false := by simp; omega
          by_cases h200 : c.2.2.2.length ≤ 100
          · have hd200 : decide ((100 : Int) < (c.2.2.2.length : Int)) = false := by simp; omega
            have HT := Lib.hid (lightJ_take hI.out HC.out ⟨h300, h200⟩)
            go_wp2_with fail
            go_round
            case measure => simp [intOf]; omega
            case rel => exact ⟨k + 1, by omega, by omega, by go_num, HT⟩
          · have hd200 : decide ((100 : Int) < (c.2.2.2.length : Int)) = true := by simp; omega
            go_wp2_with fail
            go_ret
            exact ⟨ret_bool (by symm; simp only [decide_eq_false_iff_not]; exact fun h => h200 (h.2 c HM.out).2), rfl⟩
        · have hd300 : decide ((2000 : Int) < (c.2.2.1.size : Int)) = true := by simp; omega
          go_wp2_with fail
          go_ret
          exact ⟨ret_bool (by symm; simp only [decide_eq_false_iff_not]; exact fun h => h300 (h.2 c HM.out).1), rfl⟩
      · have hd80 : decide ((60 : Int) ≤ (k : Int)) = true := by simp; omega
        go_wp2_with fail
        go_ret
        exact ⟨ret_bool (by symm; simp only [decide_eq_false_iff_not]; exact fun h => by have := h.1; omega), rfl⟩
    · obtain rfl : k = l.length := by omega
      have HT := Lib.hid (show lightJ l from ⟨hk80, by have := hI.out; rwa [List.take_length] at this⟩)
      go_wp2_with fail
      go_ret
      exact ⟨ret_bool (by symm; simpa using HT.out), rfl⟩

end Go.Proofs.YtaljgcdjkmpljaaDoor

/- JournalDoes: what its loop keeps; where there is no place for a journal. -/
namespace Go.Proofs.YtaljgcdjkmpljaaDoor
open Go.RowKit Lift
set_option linter.unusedSimpArgs false
set_option linter.unusedVariables false

abbrev rWhere : Rd (Int × Int × Int × Int) := (Rd.int .i64).pair ((Rd.int .i64).pair ((Rd.int .i64).pair (Rd.int .u32)))
theorem where_arg {w : World} {cs : Array Value} {p : Int × Int × Int × Int} (h : rWhere.rel (· < w.heap.size) w cs.toList p) :
    cs = #[.int .i64 p.1, .int .i64 p.2.1, .int .i64 p.2.2.1, .int .u32 p.2.2.2] ∧ Wf p.1 ∧ Wf p.2.1 ∧ Wf p.2.2.1 ∧ (Lit.int .u32 p.2.2.2).wf = true := by
  obtain ⟨c1, d1, h1, ⟨rfl, a1⟩, c2, d2, rfl, ⟨rfl, a2⟩, c3, d3, rfl, ⟨rfl, a3⟩, ⟨rfl, a4⟩⟩ := h
  exact ⟨Array.toList_inj.1 (by rw [h1]; rfl), a1, a2, a3, a4⟩
theorem gen_nat2 {g : Int} (h : (Lit.int .u32 g).wf = true) : ∃ n : Nat, g = (n : Int) ∧ n < 4294967296 := by
  simp [Lit.wf, IntKind.min, IntKind.max, IntKind.signed, IntKind.bits] at h
  obtain ⟨n, rfl⟩ := Int.eq_ofNat_of_zero_le h.1
  exact ⟨n, rfl, by omega⟩
theorem pair_new {w w1 w2 : World} {b n : Nat} {R : RF} (a : Nat) (h : Pl w.heap.size w1 b (St.new n)) (h2 : RRaw w1.heap.size w2 R (RSt.new n)) (hb : Below w1.heap.size w1 w2) : Pair w.heap.size w2 (fun _ => False) b (St.new n) none R.b (St.new n) a none := by
  obtain ⟨F, rfl, h⟩ := h
  have h2' : RP w.heap.size w2 R (St.new n) := ⟨_, { h2 with own2 := h2.own2.rebase h.base_le, bb := Nat.le_trans h.base_le h2.bb, gb := Nat.le_trans h.base_le h2.gb }, Rel.new n⟩
  refine ⟨F, R, rfl, rfl, h.below hb, h2', fun k a c => ?_, fun _ h => h.elim⟩
  have := h.inb k a; have := h2.ge k c; omega
theorem RP.image {base : Nat} {w : World} {R : RF} {st : St} (h : RP base w R st) (hlo : st.lo.length ≤ 1000000000) : Calls Tryd.prog 33 #[.pointer (some ⟨R.b, 0, none⟩)] w (BelowPost (.string (imageB st.no)) w) := by
  obtain ⟨rs, r1, r2⟩ := h
  rw [← r2.no]
  exact (image_ref r1 (by rw [show rs.L.length = st.lo.length by rw [r2.lo, List.length_map]]; exact hlo)).mono fun e w' ⟨a, b⟩ => ⟨a, b⟩
def ptrV : PJ → Value
  | none => .pointer none
  | some (J, _) => .pointer (some ⟨J.b, 0, none⟩)
/-- The journals of both sides have the same records, or there are none. -/
def JEq : PJ → PJ → Prop
  | none, none => True
  | some (_, js), some (_, js2) => js = js2
  | _, _ => False
/-- What the law's loop keeps. -/
structure DInv (w : World) (base n pb rb a : Nat) (k : Nat) (st : St) (jo jo2 : PJ) (wr : World) : Prop where
  pair : Pair base wr (fun _ => False) pb st jo rb st a jo2
  eq : JEq jo jo2
  len : st.no.length = n
  lo : st.lo.length ≤ 50 * k + 2
  below : Below w.heap.size w wr
  from' : base ≤ wr.heap.size
theorem fresh_clear {n a : Nat} (h : a < n) : (runOps (St.new n) (clearOps a)).2 = 0 := by
  rcases run_cases (clearOps a) (St.new n) rfl (clear_fine (by simpa [St.new] using h)) with ⟨f, hf, hr⟩ | ⟨h0, _⟩
  · rw [hr]
  · simp [St.new] at h0
set_option maxHeartbeats 8000000 in
set_option maxRecDepth 100000 in
theorem law_no (cs : Array Value) (pw : Int × Int × Int × Int) (ao : Option Addr) (cap : Nat) (l : List Op4) (w : World) (hc : rWhere.rel (· < w.heap.size) w cs.toList pw) (h : SlArg rOp w ao cap l) (hlight : lightJ l) (hpn : ∀ mo : Nat, (IntKind.u64.wrap pw.1).tmod 60 = (mo : Int) → noPlace (St.new (1 + mo)) pw.2.1 pw.2.2.1) :
    Calls Tryd.prog 6 #[.agg cs, .slice ao l.length cap] w (TruePost w) := by
  obtain ⟨x0, x1, x2, x3⟩ := pw
  obtain ⟨rfl, hw0, hw1, hw2, hw3⟩ := where_arg hc
  simp only at hw0 hw1 hw2 hw3 hpn ⊢
  obtain ⟨gen, rfl, hgen⟩ := gen_nat2 hw3
  have hl := h.at'
  have hll := Nat.le_trans h.le h.max
  clear h hc hw3
  unfold maxLen at hll
  have HLT := Lib.hid (fun W (hb : Below w.heap.size w W) => lightj_any ao cap l W (hl.old hb).here hll)
  · have e1 : decide (lightJ l) = true := by simpa using hlight
    rw [e1] at HLT
    have HLI := Lib.hid hlight
    have h60 := hlight.1
    obtain ⟨mo, hm1, hm2, hm3, hm4⟩ := mod_index x0 60 (by omega) (by omega)
    have hm2' : IntKind.u64.wrap 60 = 60 := hm2
    have hm3' : (IntKind.u64.wrap x0).tmod 60 = (mo : Int) := hm3
    have HNP := Lib.hid (hpn mo hm3)
    clear hlight e1 hm2 hm3 hpn
    obtain ⟨W0, hW0⟩ : ∃ W0, w.alloc (.cells #[.int .i64 x0, .int .i64 x1, .int .i64 x2, .int .u32 gen] 49) = W0 := ⟨_, rfl⟩
    have hb0 : Below w.heap.size w W0 := by rw [← hW0]; exact (Below.refl _ _).alloc (Nat.le_refl _) _
    have HL0 := Lib.hid (HLT.out W0 hb0)
    have c0 : W0.cell? ⟨w.heap.size, 0, none⟩ = some (.int .i64 x0) := by rw [← hW0]; simp [go_sem]
    have c1 : W0.cell? ⟨w.heap.size, 1, none⟩ = some (.int .i64 x1) := by rw [← hW0]; simp [go_sem]
    have c2 : W0.cell? ⟨w.heap.size, 2, none⟩ = some (.int .i64 x2) := by rw [← hW0]; simp [go_sem]
    have c3 : W0.cell? ⟨w.heap.size, 3, none⟩ = some (.int .u32 gen) := by rw [← hW0]; simp [go_sem]
    have f0 : W0.frozen? ⟨w.heap.size, 0, none⟩ = false := by rw [← hW0]; simp [go_sem]
    have hs0 : w.heap.size < W0.heap.size := by rw [← hW0]; simp
    clear HLT
    go_enter Tryd.func6, Tryd.ntmps6
    obtain ⟨W1, hW1⟩ : ∃ W1, W0.setCell ⟨w.heap.size, 0, none⟩ (.int .i64 (1 + (mo : Int))) = W1 := ⟨_, rfl⟩
    have d0 : W1.cell? ⟨w.heap.size, 0, none⟩ = some (.int .i64 (1 + (mo : Int))) := by rw [← hW1]; exact World.cell?_setCell_same _ _ _ c0
    have d1 : W1.cell? ⟨w.heap.size, 1, none⟩ = some (.int .i64 x1) := by rw [← hW1]; simp [go_sem, c1]
    have d2 : W1.cell? ⟨w.heap.size, 2, none⟩ = some (.int .i64 x2) := by rw [← hW1]; simp [go_sem, c2]
    have d3 : W1.cell? ⟨w.heap.size, 3, none⟩ = some (.int .u32 gen) := by rw [← hW1]; simp [go_sem, c3]
    have hs1 : w.heap.size < W1.heap.size := by rw [← hW1]; simpa using hs0
    have hb1 : Below w.heap.size w W1 := by rw [← hW1]; exact hb0.setCell (Nat.le_refl _) _
    have HCC := Lib.hid (fun W (hb : Below W1.heap.size W1 W) => show W.cell? ⟨w.heap.size, 0, none⟩ = some (.int .i64 (1 + (mo : Int))) ∧ W.cell? ⟨w.heap.size, 1, none⟩ = some (.int .i64 x1) ∧ W.cell? ⟨w.heap.size, 2, none⟩ = some (.int .i64 x2) ∧ W.cell? ⟨w.heap.size, 3, none⟩ = some (.int .u32 gen) from
      ⟨(hb.cell (p := ⟨w.heap.size, 0, none⟩) hs1).trans d0, (hb.cell (p := ⟨w.heap.size, 1, none⟩) hs1).trans d1, (hb.cell (p := ⟨w.heap.size, 2, none⟩) hs1).trans d2, (hb.cell (p := ⟨w.heap.size, 3, none⟩) hs1).trans d3⟩)
    have hmo : mo ≤ 59 := by omega
    have HMO := Lib.hid hm1
    clear hm1 d1 d2 d3
    go_wp2_with (first
      | (go_at_call 20; refine HL0.out.mono ?_; rintro e w1 ⟨rfl, rfl⟩)
      | fail)
    obtain ⟨n, hn⟩ : ∃ n : Nat, 1 + (mo : Int) = (n : Int) := ⟨1 + mo, by omega⟩
    have hn1 : 1 ≤ n := by omega
    have hn60 : n ≤ 60 := by omega
    rw [hn] at HCC ⊢
    have hno : noPlace (St.new n) x1 x2 := by have h := HNP.out; rwa [show 1 + mo = n by omega] at h
    refine (pl_new W1 n n rfl hn1 (by omega)).mono ?_
    rintro e w2 ⟨pb, rfl, hP2, hB2⟩
    obtain ⟨y0, y1, y2, y3⟩ := HCC.out w2 hB2
    have HN := Lib.hid hn
    clear hn hm3' hm2' hm4 HMO c0 c1 c2 c3 f0 d0 hW0 hW1 hb0 hs0 HL0 hmo
    go_wp2_with fail
    refine (new_ref w2 n hn1 (by omega)).mono ?_
    rintro e w3 ⟨R, rfl, hR3, hB3⟩
    have hB13 := chain hB2 hB3
    have hBw3 := chain hb1 hB13
    obtain ⟨F0, R0, hF0, hR0, q1, q2, q3, _⟩ := pair_new 0 hP2 hR3 hB3
    obtain ⟨y0, y1, y2, y3⟩ := HCC.out w3 hB13
    have HF := Lib.hid (format_no (PS.raw q1) x1 x2 gen hw1 hw2 hno)
    rw [hF0] at HF
    have hs3 : w.heap.size < w3.heap.size := by have := hB13.size; omega
    have HQ2 := Lib.hid (RS.rp q2)
    have HQ1 := Lib.hid (PS.raw q1)
    have HNO := Lib.hid hno
    obtain ⟨rb, hrb⟩ : ∃ x, R.b = x := ⟨_, rfl⟩
    rw [hrb] at hR0 ⊢
    clear hP2 hR3 hB2 hB3 hno q1 q2 q3
    go_wp2_with fail
    refine HF.out.mono ?_
    rintro e w4 ⟨rfl, hb4⟩
    rw [← hb4.cell (p := ⟨w.heap.size, 1, none⟩) hs3] at y1
    rw [← hb4.cell (p := ⟨w.heap.size, 2, none⟩) hs3] at y2
    rw [← hb4.cell (p := ⟨w.heap.size, 3, none⟩) hs3] at y3
    have HF2 := Lib.hid (rformat_no (HQ2.out.below hb4) x1 x2 gen hw1 hw2 HNO.out)
    rw [hR0] at HF2
    have hs4 : w.heap.size < w4.heap.size := by have := hb4.size; omega
    have hB4 := chain hBw3 hb4
    clear HF
    go_wp2_with fail
    refine HF2.out.mono ?_
    rintro e w5 ⟨rfl, hb5⟩
    rw [← hb5.cell (p := ⟨w.heap.size, 1, none⟩) hs4] at y1
    rw [← hb5.cell (p := ⟨w.heap.size, 2, none⟩) hs4] at y2
    rw [← hb5.cell (p := ⟨w.heap.size, 3, none⟩) hs4] at y3
    have hB5 := chain hB4 hb5
    have HN1 := Lib.hid (fun w => (need_any x1 hw1 w).mono fun e w' (h : IntPost .i64 (needI x1) w e w') => show e = .returned (.int .i64 (needI x1)) ∧ w' = w from ⟨h.1, h.2.symm⟩)
    have HN2 := Lib.hid (fun w => (rneed_any x1 hw1 w).mono fun e w' (h : IntPost .i64 (needI x1) w e w') => show e = .returned (.int .i64 (needI x1)) ∧ w' = w from ⟨h.1, h.2.symm⟩)
    obtain ⟨nd, hnd⟩ : ∃ x, needI x1 = x := ⟨_, rfl⟩
    rw [hnd] at HN1 HN2
    clear hnd HF2
    go_wp2_with fail
    (refine wp_region_quiet_lit (by kernel_rfl) (by kernel_rfl) ?_; (repeat (any_goals (first | go_big_quiet_step ((first | (go_at_call 12; exact Calls.quiet_of_same (HN1.out _)) | (go_at_call 25; exact Calls.quiet_of_same (HN2.out _)))) | quiet_step ((first | (go_at_call 12; exact Calls.quiet_of_same (HN1.out _)) | (go_at_call 25; exact Calls.quiet_of_same (HN2.out _)))) | (refine wpQuiet_step (fun K hK => ?_); go_simp; split <;> (refine hK _ ?_; clear hK K))))); all_goals (refine wpQuiet_nil ?_; intro _ hw'; obtain ⟨nq, hw''⟩ := hw'; subst hw''))
    have hB6 : Below w.heap.size w (w5.drewN nq) := bN nq hB5
    have hB36 : Below w3.heap.size w3 (w5.drewN nq) := bN nq (chain hb4 hb5)
    clear y0 y1 y2 y3 HN1 HN2 hw1 hw2
    obtain ⟨w6, hw6⟩ : ∃ x, w5.drewN nq = x := ⟨_, rfl⟩
    rw [hw6] at hB6 hB36 ⊢
    clear hw6
    go_wp2_with fail
    go_loopw [11] (fun v11 wr => v11 = .int .i64 0 ∧ wr = w6) (fun v11 _ => 0)
    case atStart => exact ⟨rfl, rfl⟩
    case round =>
      obtain ⟨rfl, rfl⟩ := hrel
      have HP := Lib.hid (image_any (HQ1.out.below hB36))
      rw [hF0] at HP
      by_cases h0 : 0 < l.length
      · have h0i : (0 : Int) < (l.length : Int) := by omega
        go_wp2_with fail
        refine HP.out.mono ?_
        rintro e w8 ⟨rfl, hb8⟩
        have HP2 := Lib.hid ((HQ2.out.below (chain hB36 hb8)).image (by simp [St.new]))
        rw [hR0] at HP2
        go_wp2_with fail
        refine HP2.out.mono ?_
        rintro e w9 ⟨rfl, hb9⟩
        go_wp2_with fail
        go_ret
        exact ⟨rfl, chain (chain hB6 hb8) hb9⟩
      · have h0i : ¬ (0 : Int) < (l.length : Int) := by omega
        go_wp2_with fail
        refine HP.out.mono ?_
        rintro e w8 ⟨rfl, hb8⟩
        have HP2 := Lib.hid ((HQ2.out.below (chain hB36 hb8)).image (by simp [St.new]))
        rw [hR0] at HP2
        go_wp2_with fail
        refine HP2.out.mono ?_
        rintro e w9 ⟨rfl, hb9⟩
        go_wp2_with fail
        go_ret
        exact ⟨rfl, chain (chain hB6 hb8) hb9⟩
end Go.Proofs.YtaljgcdjkmpljaaDoor

/- JournalDoes: what the middle of a round keeps. -/
namespace Go.Proofs.YtaljgcdjkmpljaaDoor
open Go.RowKit Lift
set_option linter.unusedSimpArgs false
set_option linter.unusedVariables false

/-- What the middle of a round keeps; bx: the block of the call's box, L: how many writes are loose at most. -/
structure DMid (W1 : World) (n pb rb a L bx : Nat) (ko : Option Addr) (kcap : Nat) (c : Op4) (st : St) (jo jo2 : PJ) (wx : World) : Prop where
  pair : Pair W1.heap.size wx (fun k => k = bx) pb st jo rb st a jo2
  eq : JEq jo jo2
  len : st.no.length = n
  lo : st.lo.length ≤ L
  below : Below W1.heap.size W1 wx
  lt : bx < wx.heap.size
  box : BoxC wx bx c ko kcap
section
variable {W1 wx wy wz : World} {n pb rb a L L' bx : Nat} {ko : Option Addr} {kcap : Nat} {c : Op4} {st st' : St} {jo jo2 jo' jo2' : PJ}
theorem DMid.after (h : DMid W1 n pb rb a L bx ko kcap c st jo jo2 wx) (hP : Pair W1.heap.size wy (fun k => k = bx) pb st' jo' rb st' a jo2') (hK : Kept (Free W1.heap.size (fun k => k = bx)) wx wy) (hE : JEq jo' jo2') (hl : st'.no.length = st.no.length) (hlo : st'.lo.length ≤ L') : DMid W1 n pb rb a L' bx ko kcap c st' jo' jo2' wy where
  pair := hP
  eq := hE
  len := hl.trans h.len
  lo := hlo
  below := h.below.trans (hK.below h.below.size (fun k hf => hf.1))
  lt := Nat.lt_of_lt_of_le h.lt hK.size
  box := h.box.kept hK (fun hf => hf.2 rfl) h.lt
theorem DMid.below' (h : DMid W1 n pb rb a L bx ko kcap c st jo jo2 wx) (hb : Below wx.heap.size wx wy) : DMid W1 n pb rb a L bx ko kcap c st jo jo2 wy :=
  h.after (h.pair.below hb) ((Kept.refl _ _).step hb) h.eq rfl h.lo
theorem DMid.wide (h : DMid W1 n pb rb a L bx ko kcap c st jo jo2 wx) (hL : L ≤ L') : DMid W1 n pb rb a L' bx ko kcap c st jo jo2 wx :=
  { h with lo := Nat.le_trans h.lo hL }
theorem DMid.start {k : Nat} (h : DInv W1 W1.heap.size n pb rb a k st jo jo2 wx) (hb : Below wx.heap.size wx wy) (hlt : wx.heap.size < wy.heap.size) (hB : BoxC wy wx.heap.size c ko kcap) : DMid W1 n pb rb a (50 * k + 2) wx.heap.size ko kcap c st jo jo2 wy where
  pair := h.pair.more hb (fun k hk => .inr ⟨by omega, by omega⟩)
  eq := h.eq
  len := h.len
  lo := h.lo
  below := h.below.trans (hb.mono h.below.size)
  lt := hlt
  box := hB
theorem DMid.fin {k : Nat} (h : DMid W1 n pb rb a (50 * (k + 1) + 2) bx ko kcap c st jo jo2 wx) : DInv W1 W1.heap.size n pb rb a (k + 1) st jo jo2 wx where
  pair := h.pair.less (fun _ h => h.elim)
  eq := h.eq
  len := h.len
  lo := h.lo
  below := h.below
  from' := h.below.size
end
theorem Pair.bd {base : Nat} {w : World} {O : Nat → Prop} {pb rb a : Nat} {st st2 : St} {jo : PJ} {J : JF} {js : JSt} (h : Pair base w O pb st jo rb st2 a (some (J, js))) : js.recs.length < st2.no.length := by
  obtain ⟨F, R, _, _, _, h2, _⟩ := h
  have h2' : RJ base w R st2 J a js := h2
  have := h2'.en; have := h2'.lim; have := h2'.len
  omega
theorem crash_lo0 (st : St) (keep : List Int) : (crashS st keep).lo.length = 0 := by
  unfold crashS; rfl
theorem JEq.cases {jo jo2 : PJ} (h : JEq jo jo2) : (jo = none ∧ jo2 = none) ∨ ∃ J J2 js, jo = some (J, js) ∧ jo2 = some (J2, js) := by
  cases jo with
  | none => cases jo2 with
    | none => exact .inl ⟨rfl, rfl⟩
    | some q => exact h.elim
  | some p => cases jo2 with
    | none => exact h.elim
    | some q =>
      obtain ⟨J, js⟩ := p; obtain ⟨J2, js2⟩ := q
      obtain rfl : js = js2 := h
      exact .inr ⟨J, J2, js, rfl, rfl⟩
theorem op_get3 {S : Nat → Prop} {w : World} {ao : Option Addr} {l : List Op4} (h : SlAt rOp S w ao l) {k : Nat} {c : Op4} (hk : l[k]? = some c) :
    ∃ b off ko kcap, ao = some ⟨b, off, none⟩ ∧ S b ∧ b < w.heap.size ∧ Wf c.1 ∧ Wf c.2.1 ∧ c.2.2.1.size ≤ maxTx ∧ (ko = none → kcap = 0) ∧ SlAt (Rd.int .i64) S w ko c.2.2.2 ∧
      w.cell? ⟨b, off + k * 4, none⟩ = some (.int .i64 c.1) ∧ w.cell? ⟨b, off + k * 4 + 1, none⟩ = some (.int .i64 c.2.1) ∧ w.cell? ⟨b, off + k * 4 + 2, none⟩ = some (.string c.2.2.1) ∧ w.cell? ⟨b, off + k * 4 + 3, none⟩ = some (.slice ko c.2.2.2.length kcap) := by
  obtain ⟨b, off, cs, rfl, hs, hlt, ⟨c1, d1, rfl, ⟨rfl, h1⟩, c2, d2, rfl, ⟨rfl, h2⟩, c3, d3, rfl, ⟨rfl, h3⟩, ⟨ko, kcap, rfl, h4, h5, h6, h7⟩⟩, hc⟩ := h.get hk
  exact ⟨b, off, ko, kcap, rfl, hs, hlt, h1, h2, h3, h6, h7, hc 0 _ rfl, hc 1 _ rfl, hc 2 _ rfl, hc 3 _ rfl⟩
/-- The document's list of records, and the first two of them. -/
theorem pair_list2 {base : Nat} {w : World} {O : Nat → Prop} {pb rb a : Nat} {st st2 : St} {jo : PJ} {J : JF} {js : JSt} (h : Pair base w O pb st jo rb st2 a (some (J, js))) :
    ∃ ao cap, w.cell? ⟨J.b, 4, none⟩ = some (.slice ao js.recs.length cap) ∧ js.recs.length ≤ cap ∧ cap ≤ maxLen ∧ SlAt Rd.str (· < w.heap.size) w ao js.recs ∧ SlAt Rd.str (· < w.heap.size) w ao (js.recs.take 2) ∧ J.b < w.heap.size := by
  obtain ⟨F, R, rfl, rfl, h1, h2, h3, h4⟩ := h
  have h2' : RJ base w R st2 J a js := h2
  obtain ⟨ao, cap, elv⟩ := h2'.form
  have c4 := h2'.cells.2.2.2.2.1
  have hO := h2'.own
  rw [elv] at c4 hO
  have hc := hO.cap
  refine ⟨ao, cap, c4, hc.1, hc.2.1, hO.here, ?_, h2'.lt⟩
  by_cases h2 : 2 ≤ js.recs.length
  · exact (hO.take h2).here
  · rw [List.take_of_length_le (by omega)]; exact hO.here
end Go.Proofs.YtaljgcdjkmpljaaDoor
