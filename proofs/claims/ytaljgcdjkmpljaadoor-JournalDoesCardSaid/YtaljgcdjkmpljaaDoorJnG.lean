/- A plate and a list of texts of a law's own: the plate's calls. -/
import Derived.Test.YtaljgcdjkmpljaaDoorJnF
import Derived.Test.YtaljgcdjkmpljaaDoorPlB
namespace Go.Proofs.YtaljgcdjkmpljaaDoor
open Go.RowKit Lift
set_option linter.unusedSimpArgs false
set_option linter.unusedVariables false

structure Duo (base : Nat) (w : World) (F : Fp) (st : St) (v : Value) (l : List ByteArray) : Prop where
  raw : Raw base w F st
  own : Lift.Own Rd.str (fun _ => True) w base 9 v l
  ap : ∀ k, v.ownBlock = some k → ¬ foot F k
section
variable {base : Nat} {w w' : World} {F : Fp} {st st' : St} {J : JF} {js js2 : JSt} {v : Value} {l : List ByteArray} {e : Ending}
theorem Trio.duo (h : Trio base w F st J js v l) : Duo base w F st v l := ⟨h.jr.raw, h.own, fun k e hf => h.ap k e (.inl hf)⟩
theorem Duo.below (h : Duo base w F st v l) (hb : Below w.heap.size w w') : Duo base w' F st v l := ⟨h.raw.below hb, h.own.below hb, h.ap⟩
theorem Duo.kept (h : Duo base w F st v l) {F' : Fp} (hR : Raw base w' F' st') (hf : ∀ k, foot F' k → foot F k ∨ w.heap.size ≤ k) (hK : Kept (foot F) w w') : Duo base w' F' st' v l ∧ Below base w w' := by
  refine ⟨⟨hR, h.own.flat str_flat hK (fun k e hf => h.ap k e hf), fun k e hf2 => ?_⟩, hK.below h.raw.base_le (fun k hf => h.raw.ge k hf)⟩
  rcases hf k hf2 with h1 | h1
  · exact h.ap k e h1
  · have := (h.own.lt k e).2; omega
theorem Duo.fuse (h : Duo base w F st v l) (n : Int) (hn1 : -9223372036854775808 ≤ n) (hn2 : n ≤ 9223372036854775807) (ho : st.off = false) :
    Calls Tryd.prog 14 #[.pointer (some ⟨F.b, 0, none⟩), .int .i64 n] w (fun e w' => e = .returned (.tuple #[]) ∧ Duo base w' F (wf st (max n (-1)) false) v l ∧ Below base w w') :=
  (fuse_any h.raw n hn1 hn2).mono fun e w' ⟨he, hR, hk⟩ => ⟨he, h.kept (by rw [← ho]; exact hR) (fun k hk => .inl hk) hk⟩
theorem Duo.crash (h : Duo base w F st v l) (hll : st.lo.length ≤ 1000000000) (ko : Option Addr) (kcap : Nat) (keep : List Int) (hkl : keep.length ≤ 9223372036854775807) (hkeep : SlAt (Rd.int .i64) (· < base) w ko keep) :
    Calls Tryd.prog 19 #[.pointer (some ⟨F.b, 0, none⟩), .slice ko keep.length kcap] w (fun e w' => e = .returned (.tuple #[]) ∧ Duo base w' { F with lv := .slice none 0 0 } (crashS st keep) v l ∧ Below base w w') :=
  (crash_any h.raw hll ko kcap keep hkl (hkeep.mono (fun b hb _ hf => by have := h.raw.ge b hf; omega))).mono fun e w' ⟨he, hR, hk⟩ => ⟨he, h.kept hR (fun k hk => .inl (foot_nil k hk)) hk⟩
/-- What Open leaves beside the list. -/
theorem Duo.made (h : Duo base w F st v l) {er : Int} (hM : MadePost base F st' er js2 w e w') :
    (er = 0 ∧ ∃ F' J2, e = .returned (.tuple #[.pointer (some ⟨J2.b, 0, none⟩), .int .i64 0]) ∧ Trio base w' F' st' J2 js2 v l ∧ F'.b = F.b ∧ Below base w w') ∨
    (er ≠ 0 ∧ ∃ F', e = .returned (.tuple #[.pointer none, .int .i64 er]) ∧ Duo base w' F' st' v l ∧ F'.b = F.b ∧ Below base w w') := by
  unfold MadePost at hM
  split at hM
  · rename_i h0
    obtain ⟨F', J2, he, hJ, hb, hf, hK⟩ := hM
    have hf1 : ∀ k, foot F' k → foot F k ∨ w.heap.size ≤ k := fun k hk => hf k (.inl hk)
    obtain ⟨hD, hB⟩ := h.kept hJ.raw hf1 hK
    refine .inl ⟨h0, F', J2, he, ⟨hJ, hD.own, fun k e hj => ?_⟩, hb, hB⟩
    rcases hf k hj with hj | hj
    · exact h.ap k e hj
    · have := (h.own.lt k e).2; omega
  · rename_i h0
    obtain ⟨he, F', hR, hb, hf, hK⟩ := hM
    obtain ⟨hD, hB⟩ := h.kept hR hf hK
    exact .inr ⟨h0, F', he, hD, hb, hB⟩
end
theorem beg_le (l : List ByteArray) : (begL (l.take 10)).2.recs.length ≤ 10 := by
  have h := begL_recs (l.take 10) beg0
  rw [List.length_take] at h
  have e0 : beg0.2.recs.length = 0 := rfl
  unfold begL
  omega
end Go.Proofs.YtaljgcdjkmpljaaDoor

/- Wherever the power goes in an Append and in openings: what the law's loop keeps, plain. -/
namespace Go.Proofs.YtaljgcdjkmpljaaDoor
open Go.RowKit Lift
set_option linter.unusedSimpArgs false
set_option linter.unusedVariables false

theorem appS_lo {st : St} {js : JSt} {s : ByteArray} : (appS st js s).lo.length ≤ st.lo.length + needN s.size + 3 := by
  unfold appS
  split
  · omega
  · split
    · omega
    · have h := runOps_lo (appOps js s) st
      have : (appOps js s).length = needN s.size + 3 := by rw [appOps_eq, List.length_append, lays_len]; rfl
      omega
theorem openR_lo {st : St} {js : JSt} : (openR st js).1.lo.length ≤ st.lo.length + 2 := by
  unfold openR
  split
  · simp
  · have h := runOps_lo (openOps st.no (openL st js).2) st
    have : (openOps st.no (openL st js).2).length ≤ 2 := by unfold openOps clearOps; split <;> simp
    omega
theorem openR_len (st : St) (js : JSt) : (openR st js).1.no.length = st.no.length := by
  unfold openR
  split
  · rfl
  · exact runOps_len _ _
theorem crash_len (st : St) (keep : List Int) : (crashS st keep).no.length = st.no.length := by
  unfold crashS
  simp only [tearL_len, settL_len]
/-- A crash at rest changes nothing. -/
theorem Hf.crash0 {st : St} {lim gen a : Nat} {recs : List ByteArray} (h : Hf st lim gen a recs) (keep : List Int) : Hf (crashS st keep) lim gen a recs := by
  refine h.crashed h.good rfl (fun i _ => by rw [h.su]) (fun x hx => by rw [h.lo] at hx; cases hx) keep ?_
  rw [h.lo, h.su]
  exact h.nh
/-- The records that a journal may have behind it all. -/
def Rok (took : List ByteArray) (s : ByteArray) (e : Int) (R : List ByteArray) : Prop := (e = 0 ∧ R = took ++ [s]) ∨ (e = 4 ∧ R = took) ∨ (e = 12 ∧ (R = took ∨ R = took ++ [s]))
/-- A plate that is about to crash. -/
structure Fall (K : List Int) (took : List ByteArray) (s : ByteArray) (e : Int) (st : St) : Prop where
  hf : ∃ R, Rok took s e R ∧ Hf (crashS st K) (1 + 38) 7 1 R
  lo : st.lo.length ≤ 1000
  len : st.no.length = 40
/-- A journal that was opened again. -/
structure Stand (took : List ByteArray) (s : ByteArray) (e : Int) (st : St) (js : JSt) : Prop where
  jn : Jn st js 1
  lim : js.lim = 39
  gen : js.gen = 7
  rok : Rok took s e js.recs
  len : st.no.length = 40
theorem app_fall {st : St} {js : JSt} (h : BInv st js) (f : Int) (s : ByteArray) (hs : s.size ≤ 600) (K : List Int) : Fall K js.recs s (appE (wf st f false) js s) (appS (wf st f false) js s) := by
  have hlen : (appS (wf st f false) js s).no.length = 40 := (appS_len s).trans h.len
  have hlo : (appS (wf st f false) js s).lo.length ≤ 1000 := by
    have h1 := appS_lo (st := wf st f false) (js := js) (s := s)
    have h2 : (wf st f false).lo.length = 0 := by show st.lo.length = 0; rw [h.jn.hf.lo]; rfl
    unfold needN at h1
    omega
  have hl : js.lim = 1 + 38 := h.lim
  refine ⟨?_, hlo, hlen⟩
  rcases (h.jn.wf f).appF s with ⟨h1, h2, h3, h4⟩ | ⟨h1, h2, h3, h4, h5⟩ | ⟨h1, h2, _, h3⟩
  · rw [h2, h3, ← hl, ← h.gen]
    exact ⟨js.recs, .inr (.inl ⟨rfl, rfl⟩), (h.jn.wf f).hf.crash0 K⟩
  · rw [h2, ← hl, ← h.gen]
    exact ⟨js.recs ++ [s], .inl ⟨rfl, rfl⟩, h3.hf.crash0 K⟩
  · rw [h2, ← hl, ← h.gen]
    rcases h3 K with h3 | h3
    · exact ⟨_, .inr (.inr ⟨rfl, .inl rfl⟩), h3⟩
    · exact ⟨_, .inr (.inr ⟨rfl, .inr rfl⟩), h3⟩
theorem Fall.opened {K : List Int} {took : List ByteArray} {s : ByteArray} {e : Int} {st : St} (h : Fall K took s e st) (f : Int) :
    ((openR (wf (crashS st K) f false) (JSt.new 1 38 7)).2 = 0 ∧ Stand took s e (openR (wf (crashS st K) f false) (JSt.new 1 38 7)).1 (openJ (wf (crashS st K) f false) (JSt.new 1 38 7))) ∨
    ((openR (wf (crashS st K) f false) (JSt.new 1 38 7)).2 = 12 ∧ 0 ≤ f ∧ Fall K took s e (openR (wf (crashS st K) f false) (JSt.new 1 38 7)).1) := by
  obtain ⟨R, hR, hH⟩ := h.hf
  have hH2 := hH.wf f
  have hlen : (openR (wf (crashS st K) f false) (JSt.new 1 38 7)).1.no.length = 40 := by
    rw [openR_len]
    show (crashS st K).no.length = 40
    rw [crash_len, h.len]
  rcases hH2.opened with ⟨h1, h2, _, _⟩ | ⟨h1, h2, _, h3⟩
  · refine .inl ⟨h1, h2, ?_, ?_, ?_, hlen⟩ <;> rw [hH2.js]
    exact hR
  · refine .inr ⟨h1, h2, ⟨R, hR, h3 K⟩, ?_, hlen⟩
    have h4 := openR_lo (st := wf (crashS st K) f false) (js := JSt.new 1 38 7)
    have h5 : (wf (crashS st K) f false).lo.length = 0 := rfl
    omega
theorem Stand.wf {took : List ByteArray} {s : ByteArray} {e : Int} {st : St} {js : JSt} (h : Stand took s e st js) (f : Int) : Stand took s e (wf st f false) js := ⟨h.jn.wf f, h.lim, h.gen, h.rok, h.len⟩
theorem Stand.binv {took : List ByteArray} {s : ByteArray} {e : Int} {st : St} {js : JSt} (h : Stand took s e st js) (hf : st.fu = -1) : BInv st js := ⟨h.jn, h.lim, h.gen, h.len, hf⟩
theorem Rok.le {took : List ByteArray} {s : ByteArray} {e : Int} {R : List ByteArray} (h : Rok took s e R) : R.length ≤ took.length + 1 := by
  rcases h with ⟨_, rfl⟩ | ⟨_, rfl⟩ | ⟨_, rfl | rfl⟩ <;> simp
theorem Trio.swap {base : Nat} {w w' : World} {F : Fp} {st : St} {J : JF} {js : JSt} {v v2 : Value} {l l2 : List ByteArray} (h : Trio base w F st J js v l) (hO : Lift.Own Rd.str (fun _ => True) w' w.heap.size 9 v2 l2) (hB : Below w.heap.size w w') : Trio base w' F st J js v2 l2 :=
  ⟨h.jr.below hB, hO.rebase h.jr.raw.base_le, fun k e hf => by have := h.jr.inb k hf; have := (hO.lt k e).1; omega⟩
theorem Trio.fuse {base : Nat} {w : World} {F : Fp} {st : St} {J : JF} {js : JSt} {v : Value} {l : List ByteArray} (h : Trio base w F st J js v l) (n : Int) (hn1 : -9223372036854775808 ≤ n) (hn2 : n ≤ 9223372036854775807) (ho : st.off = false) :
    Calls Tryd.prog 14 #[.pointer (some ⟨F.b, 0, none⟩), .int .i64 n] w (fun e w' => e = .returned (.tuple #[]) ∧ Trio base w' F (wf st (max n (-1)) false) J js v l ∧ Below base w w') :=
  (fuse_any h.jr.raw n hn1 hn2).mono fun e w' ⟨he, hR, hk⟩ => by
    have hR2 : Raw base w' F (Go.Proofs.YtaljgcdjkmpljaaDoor.wf st (max n (-1)) false) := by rw [← ho]; exact hR
    refine ⟨he, ⟨h.jr.plate hR2 rfl (fun k hk => .inl hk) hk rfl, h.own.flat str_flat hk (fun k e hf => h.ap k e (.inl hf)), h.ap⟩, hk.below h.jr.raw.base_le (fun k hf => h.jr.raw.ge k hf)⟩
/-- The crash's own list of numbers is the call's argument. -/
theorem Duo.open0 {base : Nat} {w : World} {F : Fp} {st : St} {v : Value} {l : List ByteArray} (h : Duo base w F st v l) (hn : st.no.length = 40) (hlo : st.lo.length ≤ 1000000) :
    Calls Tryd.prog 15 #[.pointer (some ⟨F.b, 0, none⟩), .int .i64 1, .int .i64 38, .int .u32 7] w (MadePost base F (openR st (JSt.new 1 38 7)).1 (openR st (JSt.new 1 38 7)).2 (openJ st (JSt.new 1 38 7)) w) :=
  open_any h.raw 1 38 7 (by omega) (by omega) (by omega) h.raw.base_le hlo
/-- An operation whose guard lets it run, as one without a guard. -/
theorem wpList_ungd {P : Program} {w : World} {ops : Array Oper} {rest : List Oper} {o : Oper} {a : Act} {Q : Exit → Act → World → Prop} (hw : Region.wanted o (yielded ops a.tmps) = true) (h : wpList P ops Q ({ o with guard := none } :: rest) a w) : wpList P ops Q (o :: rest) a w := by
  unfold wpList at h ⊢
  have h0 : Region.wanted { o with guard := none } (yielded ops a.tmps) = true := rfl
  rw [if_pos h0] at h
  rw [if_pos hw]
  exact h
def moreB : ByteArray := ⟨#[109, 111, 114, 101]⟩
theorem moreB_size : moreB.size = 4 := by decide
theorem same_b (ao bo : Option Addr) (cap cap2 n : Nat) (l m : List ByteArray) (w : World) (hl : SlAt Rd.str (· < w.heap.size) w ao l) (hm : SlAt Rd.str (· < w.heap.size) w bo m) (hlen : l.length ≤ 100000) (hn : n = m.length) (b : Bool) (hb : decide (l = m) = b) :
    Calls Tryd.prog 16 #[.slice ao l.length cap, .slice bo n cap2] w (BelowPost (.bool b) w) := by
  subst hn
  have := same_strs ao bo cap cap2 l m w hl hm hlen
  rwa [hb] at this
theorem same_c (ao bo : Option Addr) (cap cap2 n1 n : Nat) (l m : List ByteArray) (w : World) (hl : SlAt Rd.str (· < w.heap.size) w ao l) (hm : SlAt Rd.str (· < w.heap.size) w bo m) (hlen : l.length ≤ 100000) (hn1 : n1 = l.length) (hn : n = m.length) (b : Bool) (hb : decide (l = m) = b) :
    Calls Tryd.prog 16 #[.slice ao n1 cap, .slice bo n cap2] w (BelowPost (.bool b) w) := by
  subst hn1
  exact same_b ao bo cap cap2 n l m w hl hm hlen hn b hb
/-- The lists of the law, behind the appends. -/
theorem whole_mid {base : Nat} {w8 w9 wa : World} {F : Fp} {st : St} {J : JF} {js : JSt} {ao8 ao9 ao2 aoa : Option Addr} {n8 n9 n2 na c8 c9 c2 ca : Nat} {R T S8 : List ByteArray} {s : ByteArray} {ob : Obj}
    (hG : Trio base w8 F st J js (.slice ao8 n8 c8) R) (hT : Lift.Own Rd.str (fun _ => True) w8 base 9 (.slice ao2 n2 c2) T) (hb9 : Below w8.heap.size (w8.alloc ob) w9) (hO9 : Lift.Own Rd.str (fun _ => True) w9 w8.heap.size 9 (.slice ao9 n9 c9) S8)
    (hKa : Kept (fun k => some k = (Value.slice ao9 n9 c9).ownBlock) w9 wa) (hOa : Lift.Own Rd.str (fun _ => True) wa w8.heap.size 9 (.slice aoa na ca) (T ++ [s])) :
    Below w8.heap.size w8 wa ∧ Hid (SlAt Rd.str (· < wa.heap.size) wa ao8 R) ∧ Hid (SlAt Rd.str (· < wa.heap.size) wa ao2 T) ∧ Hid (SlAt Rd.str (· < wa.heap.size) wa aoa (T ++ [s])) ∧ Hid (Trio base wa F st J js (.slice ao8 n8 c8) R) ∧ Below wa.heap.size wa wa := by
  have h1 : Below w8.heap.size w8 (w8.alloc ob) := (Below.refl _ _).alloc (Nat.le_refl _) _
  have h2 := h1.trans hb9
  have h3 := hO9.kbelow (B := w8.heap.size) (Nat.le_refl _) h2.size hKa
  have h4 := h2.trans h3
  exact ⟨h4, Lib.hid (hG.below h4).own.here, Lib.hid (hT.below h4).here, Lib.hid hOa.here, Lib.hid (hG.below h4), Below.refl _ _⟩
theorem whole_end {base : Nat} {we wf2 wg : World} {F : Fp} {st : St} {J : JF} {js : JSt} {aoy ao8 aog : Option Addr} {ny n8 ng cy c8 cg : Nat} {R Y G : List ByteArray}
    (hE : Trio base we F st J js (.slice ao8 n8 c8) R) (hF : Trio base wf2 F st J js (.slice ao8 n8 c8) R) (hY : Lift.Own Rd.str (fun _ => True) wf2 we.heap.size 9 (.slice aoy ny cy) Y)
    (hK : Kept (fun k => some k = (Value.slice ao8 n8 c8).ownBlock) wf2 wg) (hG : Lift.Own Rd.str (fun _ => True) wg base 9 (.slice aog ng cg) G) (hw : (Value.slice aog ng cg).ownBlock = (Value.slice ao8 n8 c8).ownBlock ∨ ∃ g, (Value.slice aog ng cg).ownBlock = some g ∧ wf2.heap.size < g) :
    Hid (SlAt Rd.str (· < wg.heap.size) wg aoy Y) ∧ Below base wf2 wg := by
  have h1 : Lift.Own Rd.str (fun _ => True) wg we.heap.size 9 (.slice aoy ny cy) Y := hY.flat str_flat hK (fun k e e2 => by have := (hE.own.lt k e2.symm).2; have := (hY.lt k e).1; omega)
  exact ⟨Lib.hid h1.here, (hF.push hG hK hw).2⟩
end Go.Proofs.YtaljgcdjkmpljaaDoor
