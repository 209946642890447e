/- A keep: how its data lie in memory. -/
import Derived.Test.YtdebfnlnpfienaaGreatDoorKeA
import Derived.Test.YtdebfnlnpfienaaGreatDoorJnDefs
import Derived.Test.YtdebfnlnpfienaaGreatDoorJnForm2
namespace Go.Proofs.YtdebfnlnpfienaaGreatDoor
open Go.RowKit Lift
set_option linter.unusedSimpArgs false
set_option linter.unusedVariables false

/-- Where a keep lies: its block and its map's. -/
structure KF where
  b : Nat
  mb : Nat
/-- A keep's own: its pairs, its generation, whether it is dead, and how many entries its map had at most. -/
structure KSt where
  kv : List KV
  gen : Nat
  dead : Bool
  cnt : Nat
def keCells (pb jb : Nat) (K : KF) (ks : KSt) : Array Value := #[.pointer (some ⟨pb, 0, none⟩), .map (some K.mb), .int .u32 ks.gen, .pointer (some ⟨jb, 0, none⟩), .bool ks.dead]
structure KRaw (base : Nat) (w : World) (F : Fp) (st : St) (J : JF) (js : JSt) (K : KF) (ks : KSt) : Prop where
  jr : JRaw base w F st J js
  blk : w.heap[K.b]? = some (.cells (keCells F.b J.b K ks) 68 (0, 0))
  map : KMap Tryz.prog 9 9 w K.mb ks.cnt ks.kv
  rise : Rising ks.kv
  sz : ∀ p ∈ ks.kv, p.1.size ≤ 40 ∧ p.2.size ≤ 9000
  kl : ks.kv.length ≤ ks.cnt
  cn : ks.cnt ≤ 1000000
  gn : ks.gen < 4294967296
  bb : base ≤ K.b
  mm : base ≤ K.mb
  ne : K.b ≠ K.mb
  n1 : ¬ jfoot F J K.b
  n2 : ¬ jfoot F J K.mb
/-- A block of the keep's, its plate's or its journal's. -/
def kfoot (F : Fp) (J : JF) (K : KF) (k : Nat) : Prop := jfoot F J k ∨ k = K.b ∨ k = K.mb
section
variable {base : Nat} {w w' : World} {F : Fp} {st : St} {J : JF} {js : JSt} {K : KF} {ks : KSt}
theorem KRaw.lt (h : KRaw base w F st J js K ks) : K.b < w.heap.size := (Array.getElem?_eq_some_iff.1 h.blk).1
theorem KRaw.mlt (h : KRaw base w F st J js K ks) : K.mb < w.heap.size := SMap.lt h.map
theorem KRaw.inb (h : KRaw base w F st J js K ks) : ∀ k, kfoot F J K k → k < w.heap.size := by
  rintro k (hk | rfl | rfl)
  · exact h.jr.inb k hk
  · exact h.lt
  · exact h.mlt
theorem KRaw.ge (h : KRaw base w F st J js K ks) : ∀ k, kfoot F J K k → base ≤ k := by
  rintro k (hk | rfl | rfl)
  · exact h.jr.ge k hk
  · exact h.bb
  · exact h.mm
theorem KRaw.kept {X : Nat → Prop} (h : KRaw base w F st J js K ks) (hk : Kept X w w') (hx : ∀ k, kfoot F J K k → ¬ X k) : KRaw base w' F st J js K ks :=
  { h with
    jr := h.jr.kept hk (fun k hf => hx k (.inl hf))
    blk := (hk.block K.b h.lt (hx _ (.inr (.inl rfl)))).trans h.blk
    map := SMap.old h.map hk (hx _ (.inr (.inr rfl))) }
theorem KRaw.below (h : KRaw base w F st J js K ks) (hb : Below w.heap.size w w') : KRaw base w' F st J js K ks :=
  h.kept (Kept.of_below hb (fun _ => False)) (fun _ _ h => h)
theorem KRaw.rebase {base' : Nat} (h : KRaw base w F st J js K ks) (hb : base' ≤ base) : KRaw base' w F st J js K ks :=
  { h with jr := h.jr.rebase hb, bb := Nat.le_trans hb h.bb, mm := Nat.le_trans hb h.mm }
theorem KRaw.cells (h : KRaw base w F st J js K ks) :
    w.cell? ⟨K.b, 0, none⟩ = some (.pointer (some ⟨F.b, 0, none⟩)) ∧ w.cell? ⟨K.b, 1, none⟩ = some (.map (some K.mb)) ∧ w.cell? ⟨K.b, 2, none⟩ = some (.int .u32 ks.gen) ∧ w.cell? ⟨K.b, 3, none⟩ = some (.pointer (some ⟨J.b, 0, none⟩)) ∧ w.cell? ⟨K.b, 4, none⟩ = some (.bool ks.dead) :=
  ⟨cell_of_row w _ _ _ _ _ h.blk, cell_of_row w _ _ _ _ _ h.blk, cell_of_row w _ _ _ _ _ h.blk, cell_of_row w _ _ _ _ _ h.blk, cell_of_row w _ _ _ _ _ h.blk⟩
theorem KRaw.free (h : KRaw base w F st J js K ks) (i : Nat) : w.frozen? ⟨K.b, i, none⟩ = false := frozen_of_row w _ _ _ _ h.blk
end
/-- What a step of a keep leaves. -/
def KPost (base : Nat) (F : Fp) (J : JF) (K : KF) (st : St) (js : JSt) (ks : KSt) (v : Value) (w : World) (e : Ending) (w' : World) : Prop :=
  ∃ F' J', e = .returned v ∧ KRaw base w' F' st J' js K ks ∧ F'.b = F.b ∧ (∀ k, kfoot F' J' K k → kfoot F J K k ∨ w.heap.size ≤ k) ∧ Kept (kfoot F J K) w w'
/-- The same, as a relation of worlds. -/
def KS (base : Nat) (F : Fp) (J : JF) (K : KF) (st : St) (js : JSt) (ks : KSt) (w w' : World) : Prop :=
  ∃ F' J', KRaw base w' F' st J' js K ks ∧ F'.b = F.b ∧ (∀ k, kfoot F' J' K k → kfoot F J K k ∨ w.heap.size ≤ k) ∧ Kept (kfoot F J K) w w'

/-! ### Writes in memory -/
def rKw : Rd KW := Rd.str.pair (Rd.str.pair Rd.bool)
theorem kw_n : rKw.n = 3 := rfl
theorem kw_get {S : Nat → Prop} {w : World} {ao : Option Addr} {l : List KW} (h : SlAt rKw S w ao l) {k : Nat} {c : KW} (hk : l[k]? = some c) :
    ∃ b off, ao = some ⟨b, off, none⟩ ∧ S b ∧ b < w.heap.size ∧ c.1.size ≤ maxTx ∧ c.2.1.size ≤ maxTx ∧ w.cell? ⟨b, off + k * 3, none⟩ = some (.string c.1) ∧ w.cell? ⟨b, off + k * 3 + 1, none⟩ = some (.string c.2.1) ∧ w.cell? ⟨b, off + k * 3 + 2, none⟩ = some (.bool c.2.2) := by
  obtain ⟨b, off, cs, rfl, hs, hlt, ⟨c1, c2, rfl, ⟨rfl, h1⟩, c3, c4, rfl, ⟨rfl, h2⟩, rfl⟩, hc⟩ := h.get hk
  exact ⟨b, off, rfl, hs, hlt, h1, h2, hc 0 _ rfl, hc 1 _ rfl, hc 2 _ rfl⟩
theorem kw_flat : Flat rKw := fun _ _ _ _ _ _ h => h
theorem kw_rel (S : Nat → Prop) (w : World) (c : KW) (h1 : c.1.size ≤ maxTx) (h2 : c.2.1.size ≤ maxTx) : rKw.rel S w [.string c.1, .string c.2.1, .bool c.2.2] c :=
  ⟨[.string c.1], [.string c.2.1, .bool c.2.2], rfl, ⟨rfl, h1⟩, [.string c.2.1], [.bool c.2.2], rfl, ⟨rfl, h2⟩, rfl⟩
theorem rKw_at : rKw.at Tryz.prog 50 := by
  refine Rd.at_struct Tryz.underlying50 (by kernel_rfl) ?_
  exact Rd.atF_cons rStr_at rfl (Rd.atF_cons rStr_at rfl (Rd.atF_one (Rd.at_bool Tryz.underlying4 (by kernel_rfl)) rfl))
theorem kws_at : rKw.slice.at Tryz.prog 32 := Rd.at_slice Tryz.underlying32 (by kernel_rfl) rKw_at (by decide)
theorem kwss_at : rKw.slice.slice.at Tryz.prog 22 := Rd.at_slice Tryz.underlying22 (by kernel_rfl) kws_at (by decide)
end Go.Proofs.YtdebfnlnpfienaaGreatDoor

/- What a keep's methods do, in plain lists (no program in sight). -/
namespace Go.Proofs.YtdebfnlnpfienaaGreatDoor
open Go.RowKit Lift
set_option linter.unusedSimpArgs false
set_option linter.unusedVariables false

def halfN (st : St) : Nat := (st.no.length - 2) / 2
def plcN (st : St) (g : Nat) : Nat := 2 + g % 2 * halfN st
def rootL (g : Nat) : List UInt8 := [82] ++ fourL g ++ List.replicate 58 0 ++ [37]
def rootB (g : Nat) : ByteArray := ⟨(rootL g).toArray⟩
theorem rootL_len (g : Nat) : (rootL g).length = 64 := by simp [rootL, fourL]
theorem rootB_size (g : Nat) : (rootB g).size = 64 := by simp [rootB, ByteArray.size, rootL, fourL]
def sureOps (s : ByteArray) (ats : List Nat) : List Step := ats.map (fun a => some (a, s)) ++ [none]
def roomI (st : St) (taken : Int) : Int := min 1048576 (64 * ((halfN st : Int) - taken - 2))
def nxt (g : Nat) : Nat := (g + 1) % 4294967296
def emB : ByteArray := ⟨#[]⟩
/-- What a call leaves: the plate, the journal, the keep, and its answer. -/
structure KR where
  st : St
  js : JSt
  ks : KSt
  er : Int
def KSt.die (ks : KSt) : KSt := { ks with dead := true }
def anew4 (st : St) (js : JSt) (ks : KSt) (j2 : JSt) (g : Nat) : KR :=
  if (runOps st (sureOps emB [1 - g % 2])).2 = 0 then ⟨(runOps st (sureOps emB [1 - g % 2])).1, j2, { ks with gen := g }, 0⟩
  else ⟨(runOps st (sureOps emB [1 - g % 2])).1, js, ks.die, (runOps st (sureOps emB [1 - g % 2])).2⟩
def anew3 (st : St) (js : JSt) (ks : KSt) (j2 : JSt) (g : Nat) : KR :=
  if (runOps st (sureOps (rootB g) [g % 2])).2 = 0 then anew4 (runOps st (sureOps (rootB g) [g % 2])).1 js ks j2 g
  else ⟨(runOps st (sureOps (rootB g) [g % 2])).1, js, ks.die, (runOps st (sureOps (rootB g) [g % 2])).2⟩
def anew2 (st : St) (js : JSt) (ks : KSt) (j1 : JSt) (s : ByteArray) (g : Nat) : KR :=
  if appE st j1 s = 0 then anew3 (appS st j1 s) js ks (appJ st j1 s) g
  else ⟨appS st j1 s, js, ks.die, appE st j1 s⟩
def anew1 (st : St) (js : JSt) (ks : KSt) (s : ByteArray) (g : Nat) : KR :=
  if (runOps st (clearOps (plcN st g))).2 = 0 then anew2 (runOps st (clearOps (plcN st g))).1 js ks (JSt.new (plcN st g) (halfN st) g) s g
  else ⟨(runOps st (clearOps (plcN st g))).1, js, ks.die, (runOps st (clearOps (plcN st g))).2⟩
def anewR (st : St) (js : JSt) (ks : KSt) : KR :=
  if roomI st 0 < (allB ks.kv).size then ⟨st, js, ks, 4⟩ else anew1 st js ks (allB ks.kv) (nxt ks.gen)
def compR (st : St) (js : JSt) (ks : KSt) : KR := if ks.dead then ⟨st, js, ks, 12⟩ else anewR st js ks
def KSt.doing (ks : KSt) (l : List KW) : KSt := { ks with kv := l.foldl kdo ks.kv, cnt := ks.cnt + l.length }
def comF (st : St) (js : JSt) (ks : KSt) (l : List KW) : KR :=
  if appE st js (recB l) = 0 then ⟨appS st js (recB l), appJ st js (recB l), ks.doing l, 0⟩
  else ⟨appS st js (recB l), appJ st js (recB l), ks.die, appE st js (recB l)⟩
def comN (st : St) (js : JSt) (ks : KSt) (l : List KW) : KR :=
  if (anewR st js ks).er = 0 then comF (anewR st js ks).st (anewR st js ks).js (anewR st js ks).ks l else anewR st js ks
def comR (st : St) (js : JSt) (ks : KSt) (l : List KW) : KR :=
  if ks.dead then ⟨st, js, ks, 12⟩ else if badC l then ⟨st, js, ks, 3⟩
  else if leftI js < (recB l).size then
    (if roomI st 0 < (allB ks.kv).size ∨ roomI st (needI (allB ks.kv).size) < (recB l).size then ⟨st, js, ks, 4⟩ else comN st js ks l)
  else comF st js ks l
end Go.Proofs.YtdebfnlnpfienaaGreatDoor
