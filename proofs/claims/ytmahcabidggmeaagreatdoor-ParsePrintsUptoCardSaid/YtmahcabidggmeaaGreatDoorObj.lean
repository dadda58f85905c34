import Derived.Test.YtmahcabidggmeaaGreatDoorBase
set_option linter.unusedSimpArgs false
set_option linter.unusedVariables false
set_option linter.unusedSectionVars false
/- Blocks of cells, bytes, a writer. -/
namespace Go.AB
open Go.RowKit

/-! blocks of cells -/
theorem blk_lt {w : World} {b : Nat} {o : Obj} (h : w.heap[b]? = some o) : b < w.heap.size := (Array.getElem?_eq_some_iff.1 h).1
theorem blk_cell {w : World} {b : Nat} {cs : Array Value} {t : TypeId} {fr : Nat × Nat} (h : w.heap[b]? = some (.cells cs t fr)) (i : Nat) : w.cell? ⟨b, i, none⟩ = cs[i]? := by
  simp [World.cell?, h]
theorem blk_free {w : World} {b : Nat} {cs : Array Value} {t : TypeId} (h : w.heap[b]? = some (.cells cs t (0, 0))) (i : Nat) : w.frozen? ⟨b, i, none⟩ = false := by
  simp [World.frozen?, h]
theorem blk_set {w : World} {b : Nat} {cs : Array Value} {t : TypeId} {fr : Nat × Nat} (h : w.heap[b]? = some (.cells cs t fr)) (i : Nat) (u : Value) :
    (w.setCell ⟨b, i, none⟩ u).heap[b]? = some (.cells (cs.setIfInBounds i u) t fr) := by
  simp [World.setCell, Array.getElem?_modify, h]
theorem blk_set_other {w : World} {b c : Nat} (h : c ≠ b) (i : Nat) (u : Value) : (w.setCell ⟨b, i, none⟩ u).heap[c]? = w.heap[c]? := Below.heap_setCell _ _ _ _ h
theorem blk_alloc_new (w : World) (o : Obj) : (w.alloc o).heap[w.heap.size]? = some o := heap_alloc_new w o
theorem blk_alloc_old {w : World} {b : Nat} {o' : Obj} (h : w.heap[b]? = some o') (o : Obj) : (w.alloc o).heap[b]? = some o' := (Below.heap_alloc _ _ _ (blk_lt h)).trans h

/-- A byte's cell. -/
def B (x : UInt8) : Value := .int .u8 (x.toNat : Int)
theorem B_one (l : List UInt8) : ∀ u ∈ l.map B, u.oneCell' = true := by
  intro u hu; obtain ⟨_, _, rfl⟩ := List.mem_map.1 hu; rfl
theorem B_ofNat (n : Nat) : Value.int .u8 ((n : Int) % 256) = B (UInt8.ofNat n) := by
  unfold B; congr 1

/-- A slice of bytes that is read. -/
def Bytes (w : World) (v : Value) (l : List UInt8) : Prop := View w 1 v l.length (l.map B)
theorem Bytes.keep {w w' : World} {v : Value} {l : List UInt8} {S : List Nat} (h : Bytes w v l) (hc : Chg S w w') (hS : ∀ g, v.ownBlock = some g → g ∉ S) : Bytes w' v l := View.keep h hc hS
/-- What a walk asks of it: the value written out, each cell. -/
theorem Bytes.out {w : World} {v : Value} {l : List UInt8} (h : Bytes w v l) : ∃ ao cap, v = .slice ao l.length cap ∧ l.length ≤ cap ∧ cap ≤ maxLen ∧ (ao = none → l.length = 0 ∧ cap = 0) ∧
    (0 < l.length → ∃ b off, ao = some ⟨b, off, none⟩ ∧ ∀ j (hj : j < l.length), w.cell? ⟨b, off + j, none⟩ = some (.int .u8 (l[j].toNat : Int))) := by
  obtain ⟨_, _, ao, cap, hv, h1, h2, h3, h4⟩ := h
  refine ⟨ao, cap, hv, h1, h2, h3, fun h0 => ?_⟩
  obtain ⟨b, off, hb, hc⟩ := h4 (by omega)
  refine ⟨b, off, hb, fun j hj => ?_⟩
  rw [hc j (by omega)]
  simp [List.getD, hj, B]

/-- A struct of one field that is a slice of bytes of its own (a Writer): block b, the row r, the bytes l. T: the struct's type, U: the byte's. -/
structure Wr (T U : Nat) (w : World) (b : Nat) (r : Option Nat) (l : List UInt8) (ao : Option Addr) (cap : Nat) : Prop where
  blk : w.heap[b]? = some (.cells #[.slice ao l.length cap] T (0, 0))
  row : Row w U 1 (.slice ao l.length cap) r l.length (l.map B)
  ne : r ≠ some b
theorem Wr.keep {T U : Nat} {w w' : World} {b : Nat} {r : Option Nat} {l : List UInt8} {ao : Option Addr} {cap : Nat} {S : List Nat} (h : Wr T U w b r l ao cap) (hc : Chg S w w') (hb : b ∉ S) (hr : ∀ g, r = some g → g ∉ S) : Wr T U w' b r l ao cap :=
  ⟨hc.heap h.blk hb, h.row.keep hc hr, h.ne⟩
theorem Wr.cell {T U : Nat} {w : World} {b : Nat} {r : Option Nat} {l : List UInt8} {ao : Option Addr} {cap : Nat} (h : Wr T U w b r l ao cap) : w.cell? ⟨b, 0, none⟩ = some (.slice ao l.length cap) := by rw [blk_cell h.blk]; rfl
theorem Wr.free {T U : Nat} {w : World} {b : Nat} {r : Option Nat} {l : List UInt8} {ao : Option Addr} {cap : Nat} (h : Wr T U w b r l ao cap) : w.frozen? ⟨b, 0, none⟩ = false := blk_free h.blk 0
/-- Behind an append and the store of what it gave. -/
theorem Wr.put {T U : Nat} {w w1 w2 : World} {b : Nat} {r r' : Option Nat} {l l' : List UInt8} {ao ao' : Option Addr} {cap cap' : Nat} {n' : Nat} (h : Wr T U w b r l ao cap) (h1 : Chg [] w w1) (hrow : Row w2 U 1 (.slice ao' n' cap') r' n' (l'.map B)) (hc : Chg r.toList w1 w2) (hf : Fresh w1 r r') :
    Wr T U (w2.setCell ⟨b, 0, none⟩ (.slice ao' n' cap')) b r' l' ao' cap' ∧ Chg (b :: r.toList) w (w2.setCell ⟨b, 0, none⟩ (.slice ao' n' cap')) ∧ Fresh w r r' := by
  have hbr : b ∉ r.toList := fun hm => h.ne (by simpa using hm)
  have hb2 : w2.heap[b]? = some (.cells #[.slice ao l.length cap] T (0, 0)) := hc.heap (h1.heap h.blk (by simp)) hbr
  have hne : r' ≠ some b := fun e => by
    rcases hf b e with h3 | h3
    · exact h.ne h3
    · have := blk_lt h.blk; have := h1.size; omega
  obtain rfl : n' = l'.length := by have := hrow.len; simp at this; omega
  refine ⟨⟨by rw [blk_set hb2]; rfl, hrow.keep (S := [b]) ((Chg.refl _ _).setCell (p := ⟨b, 0, none⟩) (.inl (by simp)) _) (fun g hg hm => hne (by simp at hm; rw [hg, hm])), hne⟩, ?_, hf.mono h1.size⟩
  exact ((h1.nil.trans hc (fun x hx => .inl (List.mem_cons_of_mem _ hx))).setCell (p := ⟨b, 0, none⟩) (.inl (by simp)) _)
theorem Wr.put_cell {T U : Nat} {w w1 w2 : World} {b : Nat} {r : Option Nat} {l : List UInt8} {ao : Option Addr} {cap : Nat} (h : Wr T U w b r l ao cap) (h1 : Chg [] w w1) (hc : Chg r.toList w1 w2) :
    w2.cell? ⟨b, 0, none⟩ = some (.slice ao l.length cap) ∧ w2.frozen? ⟨b, 0, none⟩ = false := by
  have hbr : b ∉ r.toList := fun hm => h.ne (by simpa using hm)
  have hb2 : w2.heap[b]? = some (.cells #[.slice ao l.length cap] T (0, 0)) := hc.heap (h1.heap h.blk (by simp)) hbr
  exact ⟨by rw [blk_cell hb2]; rfl, blk_free hb2 0⟩

/-- A call's own accumulator goes on: what was there when the call began is as it was. -/
theorem own_step {a w w1 w2 : World} {r : Option Nat} (h : Chg [] a w) (hf : Fresh a none r) (h1 : Chg [] w w1) (k : Chg r.toList w1 w2) : Chg [] a w2 :=
  (h.trans' h1).trans k (fun x hx => .inr ((hf x (by simpa using hx)).resolve_left (by simp)))
theorem fresh_step {a w w1 : World} {r r' : Option Nat} (h : Chg [] a w) (hf : Fresh a none r) (h1 : Chg [] w w1) (k : Fresh w1 r r') : Fresh a none r' :=
  hf.trans (Nat.le_trans h.size h1.size) k

/-- A slice of bytes in new memory. -/
def NewB (U : Nat) (w : World) (l : List UInt8) (e : Ending) (w' : World) : Prop :=
  ∃ l' ao cap r, e = .returned (.slice ao l'.length cap) ∧ Row w' U 1 (.slice ao l'.length cap) r l'.length (l'.map B) ∧ Fresh w none r ∧ Chg [] w w' ∧ Hid (l' = l)
theorem NewB.mk' {U : Nat} {w w' : World} {l : List UInt8} {ao : Option Addr} {n cap : Nat} {r : Option Nat} {xs : List Value} (hr : Row w' U 1 (.slice ao n cap) r n xs) (hx : xs = l.map B) (hf : Fresh w none r) (hc : Chg [] w w') : NewB U w l (.returned (.slice ao n cap)) w' := by
  subst hx
  obtain rfl : n = l.length := by have := hr.len; simp at this; omega
  exact ⟨l, ao, cap, r, rfl, hr, hf, hc, rfl⟩

/-- A reader: block b holds a slice of the bytes l, the place, the fault's place and number. -/
structure Rd (T : Nat) (w : World) (b : Nat) (l : List UInt8) (ao : Option Addr) (cap pos wh bad : Nat) : Prop where
  blk : w.heap[b]? = some (.cells #[.slice ao l.length cap, .int .i64 pos, .int .i64 wh, .int .i64 bad] T (0, 0))
  view : View w 1 (.slice ao l.length cap) l.length (l.map B)
  ne : ∀ g, (Value.slice ao l.length cap).ownBlock = some g → g ≠ b
  ok : pos ≤ l.length
theorem Rd.keep {T : Nat} {w w' : World} {b : Nat} {l : List UInt8} {ao : Option Addr} {cap pos wh bad : Nat} {S : List Nat} (h : Rd T w b l ao cap pos wh bad) (hc : Chg S w w') (hb : b ∉ S) (hv : ∀ g, (Value.slice ao l.length cap).ownBlock = some g → g ∉ S) : Rd T w' b l ao cap pos wh bad :=
  ⟨hc.heap h.blk hb, h.view.keep hc hv, h.ne, h.ok⟩
theorem Rd.c0 {T : Nat} {w : World} {b : Nat} {l : List UInt8} {ao : Option Addr} {cap pos wh bad : Nat} (h : Rd T w b l ao cap pos wh bad) : w.cell? ⟨b, 0, none⟩ = some (.slice ao l.length cap) := by rw [blk_cell h.blk]; rfl
theorem Rd.c1 {T : Nat} {w : World} {b : Nat} {l : List UInt8} {ao : Option Addr} {cap pos wh bad : Nat} (h : Rd T w b l ao cap pos wh bad) : w.cell? ⟨b, 1, none⟩ = some (.int .i64 pos) := by rw [blk_cell h.blk]; rfl
theorem Rd.c2 {T : Nat} {w : World} {b : Nat} {l : List UInt8} {ao : Option Addr} {cap pos wh bad : Nat} (h : Rd T w b l ao cap pos wh bad) : w.cell? ⟨b, 2, none⟩ = some (.int .i64 wh) := by rw [blk_cell h.blk]; rfl
theorem Rd.c3 {T : Nat} {w : World} {b : Nat} {l : List UInt8} {ao : Option Addr} {cap pos wh bad : Nat} (h : Rd T w b l ao cap pos wh bad) : w.cell? ⟨b, 3, none⟩ = some (.int .i64 bad) := by rw [blk_cell h.blk]; rfl
theorem Rd.fr {T : Nat} {w : World} {b : Nat} {l : List UInt8} {ao : Option Addr} {cap pos wh bad : Nat} (h : Rd T w b l ao cap pos wh bad) (i : Nat) : w.frozen? ⟨b, i, none⟩ = false := blk_free h.blk i
theorem Rd.set1 {T : Nat} {w : World} {b : Nat} {l : List UInt8} {ao : Option Addr} {cap pos wh bad : Nat} (h : Rd T w b l ao cap pos wh bad) (p : Nat) (hp : p ≤ l.length) : Rd T (w.setCell ⟨b, 1, none⟩ (.int .i64 p)) b l ao cap p wh bad ∧ Chg [b] w (w.setCell ⟨b, 1, none⟩ (.int .i64 p)) := by
  have hc : Chg [b] w (w.setCell ⟨b, 1, none⟩ (.int .i64 p)) := (Chg.refl [b] w).setCell (p := ⟨b, 1, none⟩) (.inl (by simp)) _
  exact ⟨⟨by rw [blk_set h.blk]; rfl, h.view.keep hc (fun g hg => by simpa using h.ne g hg), h.ne, hp⟩, hc⟩
theorem Rd.set23 {T : Nat} {w : World} {b : Nat} {l : List UInt8} {ao : Option Addr} {cap pos wh bad : Nat} (h : Rd T w b l ao cap pos wh bad) (e : Nat) : Rd T ((w.setCell ⟨b, 2, none⟩ (.int .i64 pos)).setCell ⟨b, 3, none⟩ (.int .i64 e)) b l ao cap pos pos e ∧ Chg [b] w ((w.setCell ⟨b, 2, none⟩ (.int .i64 pos)).setCell ⟨b, 3, none⟩ (.int .i64 e)) := by
  have hc : Chg [b] w ((w.setCell ⟨b, 2, none⟩ (.int .i64 pos)).setCell ⟨b, 3, none⟩ (.int .i64 e)) := ((Chg.refl [b] w).setCell (p := ⟨b, 2, none⟩) (.inl (by simp)) _).setCell (p := ⟨b, 3, none⟩) (.inl (by simp)) _
  exact ⟨⟨by rw [blk_set (blk_set h.blk _ _)]; rfl, h.view.keep hc (fun g hg => by simpa using h.ne g hg), h.ne, h.ok⟩, hc⟩

/-- Nothing but draws. -/
def Drew (w w' : World) : Prop := ∃ n, w' = w.drewN n
theorem Drew.refl {w : World} {n : Nat} : Drew w (w.drewN n) := ⟨n, rfl⟩
theorem Drew.refl0 {w : World} : Drew w w := ⟨0, rfl⟩
theorem Drew.refl1 {w : World} : Drew w w.drew := ⟨1, rfl⟩
theorem Drew.trans {a b c : World} (h : Drew a b) (k : Drew b c) : Drew a c := by
  obtain ⟨n, rfl⟩ := h
  obtain ⟨m, rfl⟩ := k
  exact ⟨n + m, by simp [World.drewN, Nat.add_assoc]⟩
theorem Drew.chg {w w' : World} {S : List Nat} (h : Drew w w') : Chg S w w' := by obtain ⟨n, rfl⟩ := h; exact Chg.of_drewN _ _ _

/-- string(b), b a slice of bytes that is read. -/
theorem run_conv_view {P : Program} {src dst e : TypeId} (hs : P.underlying src = some (.slice e)) (he : P.underlying e = some (.int .u8)) (hd : P.underlying dst = some .string)
    {w : World} {v : Value} {n : Nat} {l : List UInt8} (h : View w 1 v n (l.map B)) (u : World) (hu : u.heap = w.heap) : (convert src dst v).run P u = .ok (.string ⟨l.toArray⟩) u := by
  obtain ⟨hl, _, ao, cap, rfl, _, _, _, hc⟩ := h
  have hn : l.length = n := by simpa using hl
  cases ao with
  | none =>
    rcases Nat.eq_zero_or_pos n with h0 | h0
    · have : l = [] := List.eq_nil_of_length_eq_zero (by omega)
      subst this
      rw [run_convert_bytes_string u src dst e none n cap hs he hd]
      simp only [Conv.bytesToString]
      rfl
    · obtain ⟨b, off, hb, _⟩ := hc (by omega)
      cases hb
  | some a =>
    have hload : (loadCells a n).run P u = .ok ((l.map fun x => (x.toNat : Int)).map (Value.int .u8)).toArray u := by
      have hf := firstCells_view (P := P) (w := w) (k := 1) (m := n) (v := .slice (some a) n cap) (ys := l.map B) ⟨hl, by assumption, some a, cap, rfl, by assumption, by assumption, by assumption, hc⟩ u hu
      simp only [Builtin.firstCells, Nat.mul_one] at hf
      rw [hf, List.map_map]
      rfl
    rw [run_convert_bytes_string u src dst e (some a) n cap hs he hd, run_bytesToString u a n cap _ hload, foldl_push_bytes]
    congr 2
    rw [List.map_map]
    have : (l.map ((fun n : Int => UInt8.ofNat n.toNat) ∘ fun x : UInt8 => (x.toNat : Int))) = l := by
      conv => rhs; rw [← List.map_id l]
      apply List.map_congr_left
      intro x _
      simp
    rw [this]
    show ByteArray.mk (#[] ++ l.toArray) = _
    simp

theorem run_conv_empty {P : Program} {src dst e : TypeId} (hs : P.underlying src = some (.slice e)) (he : P.underlying e = some (.int .u8)) (hd : P.underlying dst = some .string)
    (ad : Option Addr) (c : Nat) (u : World) : (convert src dst (.slice ad 0 c)).run P u = .ok (.string ⟨([] : List UInt8).toArray⟩) u := by
  cases ad with
  | none =>
    rw [run_convert_bytes_string u src dst e none 0 c hs he hd]
    simp only [Conv.bytesToString]
    rfl
  | some a => rw [run_convert_bytes_string u src dst e (some a) 0 c hs he hd, run_bytesToString u a 0 c [] rfl]; rfl
/-- A part of a slice of bytes that is read. -/
theorem View.part {w : World} {l : List UInt8} {bb off cap p v : Nat} (h : (l.map B).length = l.length * 1 ∧ l.length ≤ maxLen ∧ ∀ j, j < l.length * 1 → w.cell? ⟨bb, off + j, none⟩ = some ((l.map B).getD j undef)) (hp : p + v ≤ l.length) (hc : l.length ≤ cap) (hm : cap ≤ maxLen) :
    View w 1 (.slice (some ⟨bb, off + p, none⟩) v (cap - p)) v (((l.drop p).take v).map B) := by
  refine ⟨by simp; omega, by omega, _, _, rfl, by omega, by omega, (fun h => by cases h), fun _ => ⟨_, _, rfl, fun j hj => ?_⟩⟩
  rw [Nat.add_assoc, h.2.2 (p + j) (by omega)]
  have h1 : j < v := by omega
  have h2 : p + j < l.length := by omega
  simp [List.getD, h1, List.getElem?_drop]

theorem Rd.same {T : Nat} {w w' : World} {b : Nat} {l : List UInt8} {ao : Option Addr} {cap pos wh bad : Nat} (h : Rd T w b l ao cap pos wh bad) (hh : w'.heap = w.heap) : Rd T w' b l ao cap pos wh bad := by
  refine ⟨by rw [hh]; exact h.blk, ?_, h.ne, h.ok⟩
  obtain ⟨h1, h2, ao', cap', h3, h4, h5, h6, h7⟩ := h.view
  refine ⟨h1, h2, ao', cap', h3, h4, h5, h6, fun h0 => ?_⟩
  obtain ⟨bb, off, h8, h9⟩ := h7 h0
  exact ⟨bb, off, h8, fun j hj => by rw [show w'.cell? ⟨bb, off + j, none⟩ = w.cell? ⟨bb, off + j, none⟩ from by simp only [World.cell?, hh]]; exact h9 j hj⟩
theorem Chg.same {S : List Nat} {a w w' : World} (h : Chg S a w) (hh : w'.heap = w.heap) (h1 : w'.os = w.os) (h2 : w'.tape = w.tape) (h3 : w'.output = w.output) : Chg S a w' :=
  ⟨h1.trans h.os, h2.trans h.tape, h3.trans h.output, by rw [hh]; exact h.size, fun k hk hs => by rw [hh]; exact h.block k hk hs⟩

/-- What an argument's slice reads stays read while only new blocks are written. -/
theorem View.below {w w' : World} {k : Nat} {v : Value} {n : Nat} {xs : List Value} (h : View w k v n xs) (hb : Below w.heap.size w w') : View w' k v n xs := by
  obtain ⟨h1, h2, ao, cap, hv, h3, h4, h5, h6⟩ := h
  refine ⟨h1, h2, ao, cap, hv, h3, h4, h5, fun hn => ?_⟩
  obtain ⟨b, off, hb', hcell⟩ := h6 hn
  exact ⟨b, off, hb', fun j hj => (hb.cell (World.block_lt_of_cell? w _ (hcell j hj))).trans (hcell j hj)⟩

end Go.AB
