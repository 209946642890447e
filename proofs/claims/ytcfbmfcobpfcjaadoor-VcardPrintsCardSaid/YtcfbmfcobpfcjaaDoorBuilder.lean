/- strings.Builder over this translation: the writers' contracts (after the kit's own texts on a builder), and its reading. -/
import Derived.Test.YtcfbmfcobpfcjaaDoorRows
import Derived.Handy
import Derived.Lib.Hide
import Derived.Lib.FrozenHead
import Derived.Lib.FrozenHead2
import Derived.Lib.OthersKept
import Derived.Lib.Builder
import Derived.Test.YtcfbmfcobpfcjaaDoorBase
import Derived.Test.YtcfbmfcobpfcjaaDoorShelf
namespace Go.Proofs.YtcfbmfcobpfcjaaDoor
open Go.RowKit Lift
set_option linter.unusedSimpArgs false
set_option linter.unusedVariables false
set_option maxRecDepth 100000

theorem Tryd.infoByte : (Tryd.prog.info? 5).map (fun i => (i.zero, i.size, i.bytes)) = some (some (.int .u8 0), 1, 1) := by kernel_rfl
theorem Tryd.sizeBuilder : (Tryd.prog.info? 50).map (·.size) = some 2 := by kernel_rfl

/-- Block b is a builder that holds l; x: the block of its bytes, if it has one. -/
def Buf (b : Nat) (x : Option Nat) (l : List UInt8) (w : World) : Prop :=
  ∃ p v, (p = .pointer none ∨ p = .pointer (some ⟨b, 0, none⟩)) ∧ w.heap[b]? = some (.cells #[p, v] 50 (0, 0)) ∧ w.ownsRow 0 5 1 v l.length (Lib.byteCells l) ∧ v.ownBlock = x ∧ x ≠ some b

theorem Buf.fresh (w : World) : Buf w.heap.size none [] (w.alloc (.cells #[.pointer none, .slice none 0 0] 50)) :=
  ⟨_, _, .inl rfl, heap_alloc_new w _, World.ownsRow_nil _ _ _ _, rfl, by simp⟩
theorem Buf.lt {b : Nat} {x : Option Nat} {l : List UInt8} {w : World} (h : Buf b x l w) : b < w.heap.size ∧ ∀ k, x = some k → k < w.heap.size := by
  obtain ⟨p, v, _, hb, ho, rfl, _⟩ := h
  refine ⟨?_, fun k hk => (ho.lt k hk).2⟩
  rcases Nat.lt_or_ge b w.heap.size with h' | h'
  · exact h'
  · simp [Array.getElem?_eq_none h'] at hb
theorem Buf.kept {X : Nat → Prop} {b : Nat} {x : Option Nat} {l : List UInt8} {w w' : World} (h : Buf b x l w) (hk : Kept X w w') (hb : ¬ X b) (hx : ∀ k, x = some k → ¬ X k) : Buf b x l w' := by
  have hl := h.lt
  obtain ⟨p, v, hp, hbk, ho, rfl, hne⟩ := h
  exact ⟨p, v, hp, by rw [hk.block b hl.1 hb]; exact hbk, hk.own ho hx, rfl, hne⟩
theorem Buf.below {b : Nat} {x : Option Nat} {l : List UInt8} {w w' : World} (h : Buf b x l w) (hk : Below w.heap.size w w') : Buf b x l w' :=
  h.kept (Kept.of_below hk (fun _ => False)) (fun h => h) (fun _ _ h => h)
theorem Buf.isB {B b : Nat} {x : Option Nat} {l : List UInt8} {w : World} (h : Buf b x l w) (hB : B ≤ b) (hx : ∀ k, x = some k → B ≤ k) : Lib.IsBuilderF 50 5 B b (Lib.byteCells l) w := by
  obtain ⟨p, v, hp, hbk, ho, rfl, hne⟩ := h
  have : Lib.BuilderAtF 50 5 B b p (Lib.byteCells l) w := ⟨hB, v, hbk, World.ownsRowF_of (by rw [Lib.byteCells_length]; exact own_base ho hx), hne⟩
  rcases hp with rfl | rfl
  · exact .inl this
  · exact .inr this

set_option maxHeartbeats 1000000 in
theorem copyCheck_any (b : Nat) (p v : Value) (w : World) (hp : p = .pointer none ∨ p = .pointer (some ⟨b, 0, none⟩)) (hbk : w.heap[b]? = some (.cells #[p, v] 50 (0, 0))) :
    Calls Tryd.prog 44 #[.pointer (some ⟨b, 0, none⟩)] w fun e w' => e = .returned (.tuple #[]) ∧ (w'.heap[b]? = some (.cells #[.pointer (some ⟨b, 0, none⟩), v] 50 (0, 0)) ∧ Kept (· = b) w w') := by
  have hlt : b < w.heap.size := by
    rcases Nat.lt_or_ge b w.heap.size with h' | h'
    · exact h'
    · simp [Array.getElem?_eq_none h'] at hbk
  obtain ⟨j, hj, hjs⟩ := Option.map_eq_some_iff.1 Tryd.sizeBuilder
  rcases hp with rfl | rfl
  · have c0 : w.cell? ⟨b, 0, none⟩ = some (.pointer none) := by rw [Lib.cell_of_heap hbk]; rfl
    have f0 : w.frozen? ⟨b, 0, none⟩ = false := Lib.frozen_of_heap hbk 0
    have hsh : w.shape? b = some (50, 2) := by unfold World.shape?; rw [hbk]; rfl
    have hto := Lib.run_to_unsafe (P := Tryd.prog) w ⟨b, 0, none⟩ Tryd.underlying47 Tryd.underlying89 hj (by rw [hjs]; decide) hsh (Nat.zero_lt_succ 1)
    have hfrom := Lib.run_from_unsafe (P := Tryd.prog) w ⟨b, 0, none⟩ Tryd.underlying89 Tryd.underlying47 hj hsh (by kernel_rfl)
    have HF := Lib.hid (show (w.setCell ⟨b, 0, none⟩ (.pointer (some ⟨b, 0, none⟩))).heap[b]? = some (.cells #[.pointer (some ⟨b, 0, none⟩), v] 50 (0, 0)) by
      simp [World.setCell, Array.getElem?_modify, hbk])
    clear hbk hsh hj
    go_enter Tryd.func44, Tryd.ntmps44
    go_wp2
    rw [run_callFunc_extern Tryd.func74 (by kernel_rfl) (by kernel_rfl) (by kernel_rfl) (e := Extern.AbiNoEscape.same) (by kernel_rfl), Lib.run_noEscape]
    simp only [Result.andThen]
    rw [Oper.upon_value]
    go_wp2
    go_end0
    exact ⟨rfl, HF.out, Kept.setCell (X := (· = b)) w (p := ⟨b, 0, none⟩) rfl _⟩
  · have c0 : w.cell? ⟨b, 0, none⟩ = some (.pointer (some ⟨b, 0, none⟩)) := by rw [Lib.cell_of_heap hbk]; rfl
    have HF := Lib.hid hbk
    clear hbk
    go_enter Tryd.func44, Tryd.ntmps44
    go_wp2
    rw [Lib.run_neq_ptr_same w _ Tryd.underlying47 hj]
    go_wp2
    go_end0
    exact ⟨rfl, HF.out, Kept.refl _ _⟩

def BufPost (b : Nat) (x : Option Nat) (l : List UInt8) (w : World) (w' : World) : Prop :=
  ∃ x', Buf b x' l w' ∧ Kept (fun k => k = b ∨ some k = x) w w' ∧ (x' = x ∨ ∃ g, x' = some g ∧ w.heap.size ≤ g)

/-- What a write leaves, put together. -/
theorem bufPost_mk {b : Nat} {w w1 wa w2 : World} {v v' : Value} {l : List UInt8} {n : Nat} (hlt : b < w.heap.size) (hne : v.ownBlock ≠ some b) (hv : ∀ k, v.ownBlock = some k → k < w.heap.size)
    (hb1 : w1.heap[b]? = some (.cells #[.pointer (some ⟨b, 0, none⟩), v] 50 (0, 0))) (hk : Kept (· = b) w w1) (ha : Kept (fun _ => False) w1 wa) (hgrow : wa.grownBy w2 v.ownBlock)
    (hown : w2.ownsRow 0 5 1 v' n (Lib.byteCells l)) (hn : n = l.length) (hw : v'.ownBlock = v.ownBlock ∨ ∃ g, v'.ownBlock = some g ∧ wa.heap.size ≤ g) :
    BufPost b v.ownBlock l w (w2.setCell ⟨b, 1, none⟩ v') := by
  subst hn
  have hb2 : w2.heap[b]? = some (.cells #[.pointer (some ⟨b, 0, none⟩), v] 50 (0, 0)) := by
    rw [hgrow.block b (by have := ha.size; have := hk.size; omega) (fun e => hne e.symm), ha.block b (by have := hk.size; omega) (fun h => h)]
    exact hb1
  have hne' : v'.ownBlock ≠ some b := by
    rcases hw with e | ⟨g, e, hg⟩
    · rw [e]; exact hne
    · rw [e]; intro e2; cases e2; have := ha.size; have := hk.size; omega
  refine ⟨v'.ownBlock, ⟨_, v', .inr rfl, ?_, Kept.own (X := (· = b)) (Kept.setCell (X := (· = b)) w2 (p := ⟨b, 1, none⟩) rfl _) hown (fun k hk e => hne' (by rw [hk, e])), rfl, hne'⟩, ?_, ?_⟩
  · simp [World.setCell, Array.getElem?_modify, hb2]
  · refine ((hk.trans (ha.trans (Kept.of_grown hgrow) (Z := fun k => some k = v.ownBlock) (fun _ _ h => h.elim) (fun _ _ h => h)) (Z := fun k => k = b ∨ some k = v.ownBlock) (fun _ _ h => .inl h) (fun _ _ h => .inr h))).trans
      (Kept.setCell (X := (· = b)) w2 (p := ⟨b, 1, none⟩) rfl _) (fun _ _ h => h) (fun _ _ h => .inl h)
  · rcases hw with e | ⟨g, e, hg⟩
    · exact .inl e
    · exact .inr ⟨g, e, by have := ha.size; have := hk.size; omega⟩

set_option maxHeartbeats 1000000 in
/-- WriteByte. -/
theorem writeByte_any (b : Nat) (x : Option Nat) (l : List UInt8) (c : UInt8) (w : World) (h : Buf b x l w) (hlen : l.length + 1 ≤ 140737488355328) :
    Calls Tryd.prog 65 #[.pointer (some ⟨b, 0, none⟩), .int .u8 c.toNat] w fun e w' => e = .returned .nilIface ∧ BufPost b x (l ++ [c]) w w' := by
  obtain ⟨i0, hi, hz0, hz1, hz2⟩ := info_parts Tryd.infoByte
  have hl := h.lt
  obtain ⟨p, v, hp, hbk, hown, rfl, hne⟩ := h
  have hbs2 : Lib.byteCells (l ++ [c]) = Lib.byteCells l ++ [.int .u8 (c.toNat : Int)] := by simp [Lib.byteCells]
  have HS := Lib.hid hbs2
  clear hbs2
  go_enter Tryd.func65, Tryd.ntmps65
  go_wp2_with (go_at_call 44; refine (copyCheck_any b p v _ hp hbk).mono ?_)
  rintro e w1 ⟨rfl, hb1, hk1⟩
  have c1 : w1.cell? ⟨b, 1, none⟩ = some v := by rw [Lib.cell_of_heap hb1]; rfl
  have hown1 := hk1.own hown (fun k hk e => hne (by rw [hk, e]))
  go_wp2_with (at_builtin; refine wpList_append2 rfl _ _ 48 rfl 0 5 i0 (.int .u8 0) 1 1 Tryd.underlying48 hi hz0 hz1 hz2 rfl (by decide) v _ _ rfl (hown1.alloc _) _ 1 1 [_] rfl (by intro h; cases h) rfl (cells_new1 _ _ 5) (by intro u hu; simp at hu; subst hu; rfl) ?c3 ?c4 (Nat.zero_le _) ?_)
  case c3 => unfold maxLen; omega
  case c4 => omega
  intro v' w2 hown' hgrow _ hwh
  have hfin := Lib.hid (bufPost_mk (l := l ++ [c]) hl.1 hne hl.2 hb1 hk1 (Kept.alloc (fun _ => False) w1 _) hgrow (by rw [HS.out]; exact hown') (by simp) (by simpa using hwh))
  have hb2 : w2.heap[b]? = some (.cells #[.pointer (some ⟨b, 0, none⟩), v] 50 (0, 0)) := by
    rw [hgrow.block b (by have := hk1.size; simp; omega) (fun e => hne e.symm), Lib.alloc_old w1 _ b (by have := hk1.size; omega)]
    exact hb1
  have d1 : w2.cell? ⟨b, 1, none⟩ = some v := by rw [Lib.cell_of_heap hb2]; rfl
  have f1 : w2.frozen? ⟨b, 1, none⟩ = false := Lib.frozen_of_heap hb2 1
  obtain ⟨ao, cap, rfl⟩ := own_form hown'
  clear hb2 hb1 hbk
  go_wp2
  go_ret
  exact ⟨rfl, hfin.out⟩

set_option maxHeartbeats 1000000 in
/-- WriteString. -/
theorem writeString_any (b : Nat) (x : Option Nat) (l : List UInt8) (s : ByteArray) (w : World) (h : Buf b x l w) (hlen : l.length + s.size ≤ 140737488355328) :
    Calls Tryd.prog 22 #[.pointer (some ⟨b, 0, none⟩), .string s] w fun e w' => e = .returned (.tuple #[.int .i64 s.size, .nilIface]) ∧ BufPost b x (l ++ s.data.toList) w w' := by
  obtain ⟨i0, hi, hz0, hz1, hz2⟩ := info_parts Tryd.infoByte
  have hl := h.lt
  obtain ⟨p, v, hp, hbk, hown, rfl, hne⟩ := h
  have hbs2 : Lib.byteCells (l ++ s.data.toList) = Lib.byteCells l ++ Lib.strCells s := by rw [Lib.byteCells_append, Lib.strCells_eq]
  have HS := Lib.hid hbs2
  clear hbs2
  go_enter Tryd.func22, Tryd.ntmps22
  go_wp2_with (go_at_call 44; refine (copyCheck_any b p v _ hp hbk).mono ?_)
  rintro e w1 ⟨rfl, hb1, hk1⟩
  have c1 : w1.cell? ⟨b, 1, none⟩ = some v := by rw [Lib.cell_of_heap hb1]; rfl
  have hown1 := hk1.own hown (fun k hk e => hne (by rw [hk, e]))
  go_wp2_with (at_builtin; refine wpList_append_string2 rfl _ _ 48 9 rfl 0 5 i0 Tryd.underlying48 Tryd.underlying9 hi hz0 hz1 hz2 v _ _ rfl hown1 s rfl ?c3 ?c4 (Nat.zero_le _) ?_)
  case c3 => unfold maxLen; omega
  case c4 => omega
  intro v' w2 hown' hgrow _ hwh
  have hfin := Lib.hid (bufPost_mk (l := l ++ s.data.toList) hl.1 hne hl.2 hb1 hk1 (Kept.refl (fun _ => False) w1) hgrow (by rw [HS.out]; exact hown') (by simp) hwh)
  have hb2 : w2.heap[b]? = some (.cells #[.pointer (some ⟨b, 0, none⟩), v] 50 (0, 0)) := by
    rw [hgrow.block b (by have := hk1.size; omega) (fun e => hne e.symm)]
    exact hb1
  have d1 : w2.cell? ⟨b, 1, none⟩ = some v := by rw [Lib.cell_of_heap hb2]; rfl
  have f1 : w2.frozen? ⟨b, 1, none⟩ = false := Lib.frozen_of_heap hb2 1
  obtain ⟨ao, cap, rfl⟩ := own_form hown'
  clear hb2 hb1 hbk
  go_wp2
  go_ret2
  exact ⟨rfl, hfin.out⟩

/-- String, at the end of a builder's life: the bytes; nothing below B turns. -/
theorem bufString_any (B b : Nat) (x : Option Nat) (l : List UInt8) (w : World) (h : Buf b x l w) (hB : B ≤ b) (hx : ∀ k, x = some k → B ≤ k) :
    Calls Tryd.prog 23 #[.pointer (some ⟨b, 0, none⟩)] w fun e w' => e = .returned (.string ⟨l.toArray⟩) ∧ Below B w w' :=
  (Tryd.Builder_String_any_k B b l w (h.isB hB hx) (by have := h.lt.1; omega)).mono fun e w' ⟨h1, _, h2, _⟩ => ⟨h1, h2⟩

end Go.Proofs.YtcfbmfcobpfcjaaDoor
