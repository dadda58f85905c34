/- Walks of the library's strings.Builder: text that is put behind text. -/
import Derived.Test.YtbghkodcfedebaaGreatDoorTrl
import Derived.Lib.Builder
import Derived.Lib.UnsafeStr
set_option linter.unusedVariables false
set_option linter.unusedSectionVars false
set_option linter.unusedSimpArgs false
namespace Go.Proofs.YtbghkodcfedebaaGreatDoor
open Go.RowKit Go.AB
set_option linter.unusedSimpArgs false
set_option linter.unusedVariables false
set_option linter.unusedSectionVars false

theorem bld_info : (Tryz.prog.info? 78).map (·.size) = some 2 := by kernel_rfl
theorem noesc_run (x : Value) (w : World) : (callFunc 123 #[x]).run Tryz.prog w = .ok (.value x) w := by
  rw [run_callFunc_extern Tryz.func123 (by kernel_rfl) (by kernel_rfl) (by kernel_rfl) (e := Extern.AbiNoEscape.same) (by kernel_rfl)]
  rw [Lib.run_noEscape]
  rfl
set_option maxHeartbeats 1000000 in
set_option maxRecDepth 100000 in
theorem check_used (b : Nat) (w : World) (h0 : w.cell? ⟨b, 0, none⟩ = some (.pointer (some ⟨b, 0, none⟩))) :
    Calls Tryz.prog 102 #[.pointer (some ⟨b, 0, none⟩)] w fun e w' => e = .returned (.tuple #[]) ∧ w' = w := by
  obtain ⟨j, hj, _⟩ := Option.map_eq_some_iff.1 bld_info
  have hne := Lib.run_neq_ptr_same (P := Tryz.prog) w ⟨b, 0, none⟩ Tryz.underlying76 hj
  go_enter Tryz.func102, Tryz.ntmps102
  go_wp2
  go_end0
  exact ⟨rfl, rfl⟩
set_option maxHeartbeats 1000000 in
set_option maxRecDepth 100000 in
theorem check_fresh (b : Nat) (w : World) (h0 : w.cell? ⟨b, 0, none⟩ = some (.pointer none)) (hsh : w.shape? b = some (78, 2)) (hfz : w.frozen? ⟨b, 0, none⟩ = false) :
    Calls Tryz.prog 102 #[.pointer (some ⟨b, 0, none⟩)] w fun e w' => e = .returned (.tuple #[]) ∧ w' = w.setCell ⟨b, 0, none⟩ (.pointer (some ⟨b, 0, none⟩)) := by
  obtain ⟨j, hj, hjs⟩ := Option.map_eq_some_iff.1 bld_info
  have t1 := Lib.run_to_unsafe (P := Tryz.prog) w ⟨b, 0, none⟩ Tryz.underlying76 Tryz.underlying183 hj (by rw [hjs]; decide) hsh (Nat.zero_lt_succ 1)
  have t2 := Lib.run_from_unsafe (P := Tryz.prog) w ⟨b, 0, none⟩ Tryz.underlying183 Tryz.underlying76 hj hsh (by kernel_rfl)
  go_enter Tryz.func102, Tryz.ntmps102
  go_wp2
  rw [noesc_run]
  rw [Oper.upon_value]
  go_wp2
  go_end0
  exact ⟨rfl, rfl⟩
/-- A builder: block b, its row. -/
structure Bld (w : World) (b : Nat) (l : List UInt8) (r : Option Nat) (ao : Option Addr) (cap : Nat) : Prop where
  blk : ∃ p, (p = .pointer none ∨ p = .pointer (some ⟨b, 0, none⟩)) ∧ w.heap[b]? = some (.cells #[p, .slice ao l.length cap] 78 (0, 0))
  row : Row w 5 1 (.slice ao l.length cap) r l.length (l.map B)
  ne : r ≠ some b
section
variable {w : World} {b : Nat} {l : List UInt8} {r : Option Nat} {ao : Option Addr} {cap : Nat}
theorem Bld.keep {w' : World} {S : List Nat} (h : Bld w b l r ao cap) (hc : Chg S w w') (hb : b ∉ S) (hr : ∀ g, r = some g → g ∉ S) : Bld w' b l r ao cap := by
  obtain ⟨p, hp, hk⟩ := h.blk
  exact ⟨⟨p, hp, hc.heap hk hb⟩, h.row.keep hc hr, h.ne⟩
theorem Bld.start (w : World) : Bld (w.alloc (.cells #[.pointer none, .slice none 0 0] 78)) w.heap.size [] none none 0 :=
  ⟨⟨_, .inl rfl, heap_alloc_new w _⟩, Row.nil _ _ _, by simp⟩
theorem check_calls (h : Bld w b l r ao cap) : Calls Tryz.prog 102 #[.pointer (some ⟨b, 0, none⟩)] w fun e w' => e = .returned (.tuple #[]) ∧ Chg [b] w w' ∧ w'.heap[b]? = some (.cells #[.pointer (some ⟨b, 0, none⟩), .slice ao l.length cap] 78 (0, 0)) := by
  obtain ⟨p, hp, hk⟩ := h.blk
  rcases hp with rfl | rfl
  · refine (check_fresh b w (blk_cell hk 0) (by unfold World.shape?; rw [hk]; rfl) (blk_free hk 0)).mono ?_
    rintro e w' ⟨rfl, rfl⟩
    exact ⟨rfl, (Chg.refl [b] w).setCell (p := ⟨b, 0, none⟩) (.inl (by simp)) _, blk_set hk 0 _⟩
  · refine (check_used b w (blk_cell hk 0)).mono ?_
    rintro e w' ⟨rfl, rfl⟩
    exact ⟨rfl, Chg.refl _ _, hk⟩
theorem bmap_str (s : List UInt8) : (bA s).data.toList.map (fun b => Value.int .u8 b.toNat) = s.map B := rfl
/-- What a write leaves. -/
def Wrote (w : World) (b : Nat) (r : Option Nat) (l : List UInt8) (w' : World) : Prop := ∃ r' ao' cap', Bld w' b l r' ao' cap' ∧ Chg (b :: r.toList) w w' ∧ Fresh w r r'
set_option maxHeartbeats 4000000 in
set_option maxRecDepth 100000 in
theorem wstring_calls (s : List UInt8) (h : Bld w b l r ao cap) (hl : l.length + s.length ≤ 1073741824) : Calls Tryz.prog 67 #[.pointer (some ⟨b, 0, none⟩), .string (bA s)] w fun e w' => e = .returned (.tuple #[.int .i64 s.length, .nilIface]) ∧ Wrote w b r (l ++ s) w' := by
  have HC := hid (check_calls h)
  have HB := hid h
  have hsz : (bA s).size = s.length := bA_size s
  obtain ⟨n, hn⟩ : ∃ n, l.length = n := ⟨_, rfl⟩
  rw [hn] at HC hl
  have HN := hid hn
  clear h hn
  go_enter Tryz.func67, Tryz.ntmps67
  go_wp2_with (go_at_call 102; refine HC.out.mono ?_; rintro e w1 ⟨rfl, hc1, hk1⟩; refine halt (fun X hX => ?_))
  have hrow : Row w1 5 1 (.slice ao n cap) r n (l.map B) := by
    have h2 := HB.out.row
    rw [HN.out] at h2
    exact h2.keep hc1 (fun g hg hm => HB.out.ne (by simp at hm; rw [hg, hm]))
  have c1 : w1.cell? ⟨b, 1, none⟩ = some (.slice ao n cap) := blk_cell hk1 1
  have hb1 := blk_lt hk1
  have HRW := hid (And.intro hrow (And.intro hk1 hc1))
  have hrb : b ∉ r.toList := fun hm => HB.out.ne (by simpa using hm)
  have HRB := hid hrb
  clear hrow hk1 hc1 hrb
  rw [hX.out]; clear hX
  go_wp2_with (at_builtin; refine wpList_app_string rfl _ _ 34 9 rfl elem_u8 Tryz.underlying9 rfl HRW.out.1 rfl (by unfold maxLen; omega) (by omega) (fun ao' cap' r' w2 hr2 hc2 hf2 hnil2 => halt (fun X hX => ?_)))
  have hk2 := hc2.heap HRW.out.2.1 HRB.out
  have d1 : w2.cell? ⟨b, 1, none⟩ = some (.slice ao n cap) := blk_cell hk2 1
  have df := blk_free hk2 1
  have H2 := hid (And.intro hr2 (And.intro hc2 (And.intro hf2 hk2)))
  clear hr2 hc2 hf2 hk2 hnil2
  rw [hX.out]; clear hX
  go_wp2
  go_ret2
  obtain ⟨hr2, hc2, hf2, hk2⟩ := H2.out
  obtain ⟨hrow, hk1, hc1⟩ := HRW.out
  have hn := HN.out
  subst hn
  refine ⟨by first | rfl | (rw [hsz]), r', ao', cap', ⟨⟨_, .inr rfl, ?_⟩, ?_, ?_⟩, ?_, ?_⟩
  · rw [List.length_append, ← hsz]
    exact blk_set hk2 1 _
  · have hr3 : Row w2 5 1 (.slice ao' (l.length + (bA s).size) cap') r' (l.length + (bA s).size) ((l ++ s).map B) := by rw [List.map_append]; exact hr2
    rw [hsz, ← List.length_append] at hr3
    rw [← List.length_append]
    refine hr3.keep (S := [b]) ((Chg.refl _ _).setCell (p := ⟨b, 1, none⟩) (.inl (by simp)) _) (fun g hg hm => ?_)
    simp at hm
    subst hm
    rcases hf2 g hg with h3 | h3
    · exact HB.out.ne h3
    · have := blk_lt hk1; omega
  · intro e
    rcases hf2 b e with h3 | h3
    · exact HB.out.ne h3
    · have := blk_lt hk1; omega
  · exact ((hc1.mono (fun x hx => .inl (by simp at hx; simp [hx]))).trans hc2 (fun x hx => .inl (List.mem_cons_of_mem _ hx))).setCell (p := ⟨b, 1, none⟩) (.inl (by simp)) _
  · exact hf2.mono hc1.size
set_option maxHeartbeats 4000000 in
set_option maxRecDepth 100000 in
theorem wbyte_calls (c : UInt8) (h : Bld w b l r ao cap) (hl : l.length + 1 ≤ 1073741824) : Calls Tryz.prog 69 #[.pointer (some ⟨b, 0, none⟩), .int .u8 c.toNat] w fun e w' => e = .returned .nilIface ∧ Wrote w b r (l ++ [c]) w' := by
  have HC := hid (check_calls h)
  have HB := hid h
  obtain ⟨n, hn⟩ : ∃ n, l.length = n := ⟨_, rfl⟩
  rw [hn] at HC hl
  have HN := hid hn
  clear h hn
  obtain ⟨cv, hcv⟩ : ∃ cv : Int, (c.toNat : Int) = cv := ⟨_, rfl⟩
  rw [hcv]
  have HCV := hid hcv
  clear hcv
  go_enter Tryz.func69, Tryz.ntmps69
  go_wp2_with (go_at_call 102; refine HC.out.mono ?_; rintro e w1 ⟨rfl, hc1, hk1⟩; refine halt (fun X hX => ?_))
  have hrow : Row w1 5 1 (.slice ao n cap) r n (l.map B) := by
    have h2 := HB.out.row
    rw [HN.out] at h2
    exact h2.keep hc1 (fun g hg hm => HB.out.ne (by simp at hm; rw [hg, hm]))
  have c1 : w1.cell? ⟨b, 1, none⟩ = some (.slice ao n cap) := blk_cell hk1 1
  have hb1 := blk_lt hk1
  have HRW := hid (And.intro hrow (And.intro hk1 hc1))
  have hrb : b ∉ r.toList := fun hm => HB.out.ne (by simpa using hm)
  have HRB := hid hrb
  clear hrow hk1 hc1 hrb
  rw [hX.out]; clear hX
  go_wp2_with (at_builtin; refine wpList_app rfl _ _ 34 rfl elem_u8 rfl (HRW.out.1.keep ((Chg.refl [] w1).alloc _) (by simp)) rfl (View.one _ _ _) (by simp [Value.oneCell']) (by unfold maxLen; omega) (by omega) (fun ao' cap' r' w2 hr2 hc2 hf2 hnil2 => halt (fun X hX => ?_)))
  have hc12 : Chg [] w1 (w1.alloc (.cells #[.int .u8 cv] 5)) := (Chg.refl [] w1).alloc _
  have hk2 := hc2.heap (hc12.heap HRW.out.2.1 (by simp)) HRB.out
  have d1 : w2.cell? ⟨b, 1, none⟩ = some (.slice ao n cap) := blk_cell hk2 1
  have df := blk_free hk2 1
  have H2 := hid (And.intro hr2 (And.intro (hc12.nil.trans' hc2) (And.intro (hf2.mono hc12.size) hk2)))
  clear hr2 hc2 hf2 hk2 hnil2 hc12
  rw [hX.out]; clear hX
  go_wp2
  go_ret
  obtain ⟨hr2, hc2, hf2, hk2⟩ := H2.out
  obtain ⟨hrow, hk1, hc1⟩ := HRW.out
  have hn := HN.out
  subst hn
  have hcv := HCV.out
  subst hcv
  refine ⟨rfl, r', ao', cap', ⟨⟨_, .inr rfl, ?_⟩, ?_, ?_⟩, ?_, ?_⟩
  · rw [List.length_append]
    exact blk_set hk2 1 _
  · have hr3 : Row w2 5 1 (.slice ao' (l.length + 1) cap') r' (l.length + 1) ((l ++ [c]).map B) := by rw [List.map_append]; exact hr2
    rw [show l.length + 1 = (l ++ [c]).length from by simp] at hr3 ⊢
    refine hr3.keep (S := [b]) ((Chg.refl _ _).setCell (p := ⟨b, 1, none⟩) (.inl (by simp)) _) (fun g hg hm => ?_)
    simp at hm
    subst hm
    rcases hf2 g hg with h3 | h3
    · exact HB.out.ne h3
    · have := blk_lt hk1; omega
  · intro e
    rcases hf2 b e with h3 | h3
    · exact HB.out.ne h3
    · have := blk_lt hk1; omega
  · exact ((hc1.mono (fun x hx => .inl (by simp at hx; simp [hx]))).trans hc2 (fun x hx => .inl (List.mem_cons_of_mem _ hx))).setCell (p := ⟨b, 1, none⟩) (.inl (by simp)) _
  · exact hf2.mono hc1.size
/-- The text so far. -/
theorem bstring_calls {B0 : Nat} (h : Bld w b l r ao cap) (hb : B0 ≤ b) (hr : ∀ g, r = some g → B0 ≤ g) (hw : B0 ≤ w.heap.size) : Calls Tryz.prog 41 #[.pointer (some ⟨b, 0, none⟩)] w fun e w' => e = .returned (.string (bA l)) ∧ Below B0 w w' := by
  have hown : w.ownsRow B0 5 1 (.slice ao l.length cap) (l.map B).length (l.map B) := by
    refine ⟨by simp, ?_⟩
    rcases h.row.own.2 with hn | ⟨g, cap', cur, hv, _, rest⟩
    · exact .inl (by simpa using hn)
    · refine .inr ⟨g, cap', cur, by simpa using hv, hr g ?_, by simpa using rest⟩
      have := h.row.blk
      rw [hv] at this
      exact this.symm
  have hne : (Value.slice ao l.length cap).ownBlock ≠ some b := by rw [h.row.blk]; exact h.ne
  obtain ⟨p, hp, hk⟩ := h.blk
  refine Tryz.Builder_String_any B0 b l w ?_ hw
  rcases hp with rfl | rfl
  · exact .inl ⟨hb, _, hk, hown, hne⟩
  · exact .inr ⟨hb, _, hk, hown, hne⟩
end
end Go.Proofs.YtbghkodcfedebaaGreatDoor
