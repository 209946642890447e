/- ContainsFunc at entries, pairs, records. -/
import Derived.Test.YtefefpiealknlaaGreatDoorAuDefs
namespace Go.Proofs.YtefefpiealknlaaGreatDoor
open Go.RowKit Lift
set_option linter.unusedSimpArgs false
set_option linter.unusedVariables false





set_option maxHeartbeats 1000000 in
set_option maxRecDepth 100000 in
theorem contains_ent0 (ao : Option Addr) (cap : Nat) (l : List Ent) (g : FuncId) (p : Ent → Bool) (w : World) (hl : SlAt rEnt (· < w.heap.size) w ao l) (hlen : l.length ≤ 100000) (hp : PredOf okEnt encEnt g [] p w.heap.size w) :
    Calls Tryz.prog 14 #[.slice ao l.length cap, .func (.func g) #[] #[]] w (BelowPost (.bool (l.any p)) w) := by
  have HC := Lib.hid (index_ent0 ao cap l g  p w hl hlen hp)
  have HI := Lib.hid (idx_any p l 0)
  clear hp hl
  go_enter Tryz.func14, Tryz.ntmps14
  go_wp2_with fail
  refine HC.out.mono ?_
  rintro e w3 ⟨rfl, hb3⟩
  go_wp2_with fail
  go_ret
  exact ⟨ret_bool (by simpa using HI.out), hb3⟩


set_option maxHeartbeats 1000000 in
set_option maxRecDepth 100000 in
theorem contains_ent1 (ao : Option Addr) (cap : Nat) (l : List Ent) (g : FuncId) (b0 : Value) (p : Ent → Bool) (w : World) (hl : SlAt rEnt (· < w.heap.size) w ao l) (hlen : l.length ≤ 100000) (hp : PredOf okEnt encEnt g [b0] p w.heap.size w) :
    Calls Tryz.prog 14 #[.slice ao l.length cap, .func (.func g) #[] #[b0]] w (BelowPost (.bool (l.any p)) w) := by
  have HC := Lib.hid (index_ent1 ao cap l g b0 p w hl hlen hp)
  have HI := Lib.hid (idx_any p l 0)
  clear hp hl
  go_enter Tryz.func14, Tryz.ntmps14
  go_wp2_with fail
  refine HC.out.mono ?_
  rintro e w3 ⟨rfl, hb3⟩
  go_wp2_with fail
  go_ret
  exact ⟨ret_bool (by simpa using HI.out), hb3⟩


set_option maxHeartbeats 1000000 in
set_option maxRecDepth 100000 in
theorem contains_rec0 (ao : Option Addr) (cap : Nat) (l : List Rec) (g : FuncId) (p : Rec → Bool) (w : World) (hl : SlAt rRec (· < w.heap.size) w ao l) (hlen : l.length ≤ 100000) (hp : PredOf okRec encRec g [] p w.heap.size w) :
    Calls Tryz.prog 16 #[.slice ao l.length cap, .func (.func g) #[] #[]] w (BelowPost (.bool (l.any p)) w) := by
  have HC := Lib.hid (index_rec0 ao cap l g  p w hl hlen hp)
  have HI := Lib.hid (idx_any p l 0)
  clear hp hl
  go_enter Tryz.func16, Tryz.ntmps16
  go_wp2_with fail
  refine HC.out.mono ?_
  rintro e w3 ⟨rfl, hb3⟩
  go_wp2_with fail
  go_ret
  exact ⟨ret_bool (by simpa using HI.out), hb3⟩


/-- Sides as they came in: what they are, and where they lie. -/
structure Sd where
  e : List Ent
  g : List Ent
  p : List Pai
  r : List Rec
  ea : Option Addr
  ga : Option Addr
  pa : Option Addr
  ra : Option Addr
  ec : Nat
  gc : Nat
  pc : Nat
  rc : Nat
def sdV (s : Sd) : Value := .agg #[.slice s.ea s.e.length s.ec, .slice s.ga s.g.length s.gc, .slice s.pa s.p.length s.pc, .slice s.ra s.r.length s.rc]
structure SdOk (B : Nat) (w : World) (s : Sd) : Prop where
  e : SlAt rEnt (· < B) w s.ea s.e
  g : SlAt rEnt (· < B) w s.ga s.g
  p : SlAt rPai (· < B) w s.pa s.p
  r : SlAt rRec (· < B) w s.ra s.r
  el : s.e.length ≤ 1000
  gl : s.g.length ≤ 1000
  pl : s.p.length ≤ 1000
  rl : s.r.length ≤ 1000
theorem SdOk.old {B : Nat} {w w' : World} {s : Sd} (h : SdOk B w s) (hb : Below B w w') : SdOk B w' s :=
  ⟨h.e.old hb, h.g.old hb, h.p.old hb, h.r.old hb, h.el, h.gl, h.pl, h.rl⟩
theorem SdOk.up {B B' : Nat} {w : World} {s : Sd} (h : SdOk B w s) (hb : B ≤ B') : SdOk B' w s :=
  ⟨h.e.mono (fun b hb' _ => by omega), h.g.mono (fun b hb' _ => by omega), h.p.mono (fun b hb' _ => by omega), h.r.mono (fun b hb' _ => by omega), h.el, h.gl, h.pl, h.rl⟩
def SdBox (w : World) (a : Nat) (s : Sd) : Prop :=
  w.cell? ⟨a, 0, none⟩ = some (.slice s.ea s.e.length s.ec) ∧ w.cell? ⟨a, 1, none⟩ = some (.slice s.ga s.g.length s.gc) ∧ w.cell? ⟨a, 2, none⟩ = some (.slice s.pa s.p.length s.pc) ∧ w.cell? ⟨a, 3, none⟩ = some (.slice s.ra s.r.length s.rc)
theorem SdBox.old {B a : Nat} {w w' : World} {s : Sd} (h : SdBox w a s) (hb : Below B w w') (ha : a < B) : SdBox w' a s :=
  ⟨(hb.cell (p := ⟨a, 0, none⟩) ha).trans h.1, (hb.cell (p := ⟨a, 1, none⟩) ha).trans h.2.1, (hb.cell (p := ⟨a, 2, none⟩) ha).trans h.2.2.1, (hb.cell (p := ⟨a, 3, none⟩) ha).trans h.2.2.2⟩

/-- Is a number one of some contacts'? -/
def oneB (l : List Ent) (n : Int) : Bool := l.any (fun c => decide (c.1 = n))
end Go.Proofs.YtefefpiealknlaaGreatDoor
