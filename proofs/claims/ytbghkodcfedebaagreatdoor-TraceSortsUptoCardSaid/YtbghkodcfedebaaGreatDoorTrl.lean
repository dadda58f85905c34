/- Walks of the trace layer: the library's variables; words, numbers, cuts. -/
import Derived.Test.YtbghkodcfedebaaGreatDoorTrc
import Derived.Test.YtbghkodcfedebaaGreatDoorShelf
import Derived.Lib.Fields
import Derived.Lib.LaidTab
set_option linter.unusedVariables false
set_option linter.unusedSectionVars false
set_option linter.unusedSimpArgs false
namespace Go.AB
open Go.RowKit
def bA (s : List UInt8) : ByteArray := ⟨s.toArray⟩
theorem bA_eq {s : ByteArray} {l : List UInt8} (h : s.data.toList = l) : s = bA l := by
  subst h
  cases s with | mk d => simp [bA]
theorem bA_toList (l : List UInt8) : (bA l).toList = l := by rw [Lib.toList_data]; rfl
theorem beq_bA (a b : List UInt8) : ((bA a).toList == (bA b).toList) = decide (a = b) := by
  rw [bA_toList, bA_toList]
  by_cases h : a = b
  · subst h; simp
  · simp [h]
theorem bA_size (l : List UInt8) : (bA l).size = l.length := by show (l.toArray).size = _; simp
theorem bA_inj {a b : List UInt8} (h : bA a = bA b) : a = b := congrArg (fun b : ByteArray => b.data.toList) h
/-! cuts -/
theorem ixb_hit (c : UInt8) : ∀ (a r : List UInt8), c ∉ a → Lib.indexByte (a ++ c :: r) c = a.length
  | [], r, _ => by simp [Lib.indexByte]
  | b :: a, r, h => by
    simp only [List.mem_cons, not_or] at h
    have ih := ixb_hit c a r h.2
    rw [List.cons_append, Lib.indexByte, if_neg (by simp only [beq_iff_eq]; exact fun e => h.1 e.symm), ih, if_neg (by simp only [beq_iff_eq]; omega)]
    simp
theorem ixb_miss (c : UInt8) : ∀ (s : List UInt8), c ∉ s → Lib.indexByte s c = -1
  | [], _ => rfl
  | b :: s, h => by
    simp only [List.mem_cons, not_or] at h
    rw [Lib.indexByte, if_neg (by simp only [beq_iff_eq]; exact fun e => h.1 e.symm), ixb_miss c s h.2]
    rfl
theorem cut_10 (s : List UInt8) : Lib.cut s [10] = match cutE s with
    | none => (s, [], false)
    | some (a, r) => (a, r, true) := by
  unfold Lib.cut
  rw [Lib.index_one]
  cases h : cutE s with
  | none =>
    rw [ixb_miss 10 s (cutE_none.1 h), if_neg (by omega)]
  | some p =>
    obtain ⟨a, r⟩ := p
    obtain ⟨h1, rfl⟩ := cutE_some h
    rw [ixb_hit 10 a r h1, if_pos (by omega)]
    simp
theorem mem_split {c : UInt8} : ∀ {s : List UInt8}, c ∈ s → ∃ a r, s = a ++ c :: r ∧ c ∉ a
  | [], h => absurd h (by simp)
  | b :: s, h => by
    by_cases e : b = c
    · exact ⟨[], s, by rw [e]; rfl, by simp⟩
    · obtain ⟨a, r, h1, h2⟩ := mem_split (c := c) (s := s) (by
        rcases List.mem_cons.1 h with h | h
        · exact absurd h.symm e
        · exact h)
      exact ⟨b :: a, r, by rw [h1]; rfl, by simp only [List.mem_cons, not_or]; exact ⟨fun h => e h.symm, h2⟩⟩
theorem split_32 : ∀ (n : Nat) (s : List UInt8), s.length ≤ n → Lib.splitK [32] 0 (Lib.count s [32]) s = splitE s ∧ (splitE s).length = Lib.count s [32] + 1
  | n, s, hn => by
    by_cases h : 32 ∈ s
    · obtain ⟨a, r, rfl, ha⟩ := mem_split h
      have hi : Lib.index (a ++ 32 :: r) [32] = a.length := by rw [Lib.index_one, ixb_hit 32 a r ha]
      have hd : (a ++ 32 :: r).drop (a.length + [(32 : UInt8)].length) = r := by simp [← List.drop_drop]
      have hc := Lib.count_hit (by simp) hi
      rw [hd] at hc
      cases n with
      | zero => simp at hn
      | succ n =>
        obtain ⟨h1, h2⟩ := split_32 n r (by simp at hn; omega)
        rw [hc, Nat.add_comm 1, splitE_app a r ha]
        refine ⟨?_, by simp [h2]⟩
        unfold Lib.splitK
        rw [if_neg (by rw [hi]; simp only [beq_iff_eq]; omega), hi, Int.toNat_natCast, hd, h1]
        simp
    · have hi : Lib.index s [32] = -1 := by rw [Lib.index_one, ixb_miss 32 s h]
      rw [Lib.count_miss hi, splitE_no s h]
      exact ⟨rfl, rfl⟩
theorem split_vals (s : List UInt8) : (Lib.splitB ⟨#[32]⟩ 0 (Lib.countB (bA s) ⟨#[32]⟩) (bA s)) = (splitE s).map bA ∧ Lib.countB (bA s) ⟨#[32]⟩ + 1 = (splitE s).length := by
  obtain ⟨h1, h2⟩ := split_32 s.length s (Nat.le_refl _)
  have h3 := Lib.splitB_data ⟨#[32]⟩ 0 (Lib.countB (bA s) ⟨#[32]⟩) (bA s)
  have h4 : Lib.splitK [32] 0 (Lib.count s [32]) s = (Lib.splitB ⟨#[32]⟩ 0 (Lib.countB (bA s) ⟨#[32]⟩) (bA s)).map (·.data.toList) := h3.symm
  refine ⟨?_, h2.symm⟩
  rw [← h1, h4, List.map_map]
  conv => lhs; rw [← List.map_id (Lib.splitB ⟨#[32]⟩ 0 (Lib.countB (bA s) ⟨#[32]⟩) (bA s))]
  congr 1
/-! words -/
def wordsText : List UInt8 := [114, 101, 97, 100, 32, 119, 114, 105, 116, 101, 32, 108, 111, 111, 107, 32, 115, 101, 116, 32, 108, 111, 99, 107, 32, 117, 110, 108, 111, 99, 107, 32, 102, 111, 114, 107, 32, 106, 111, 105, 110, 32, 97, 114, 114, 105, 118, 101, 32, 100, 101, 112, 97, 114, 116, 32, 101, 120, 105, 116]
theorem words_fields : Lib.fields wordsText = wordTab := by decide +kernel
theorem words_ascii : ∀ b ∈ wordsText, b.toNat < 128 := by decide +kernel
theorem idx_from (x : List UInt8) : ∀ (zs : List (List UInt8)) (i : Nat), Lib.idxFromS (zs.map bA) (bA x) i = (idxE.go x zs (i + 1) : Int) - 1
  | [], i => rfl
  | z :: zs, i => by
    rw [List.map_cons, Lib.idxFromS, idxE.go]
    by_cases h : z = x
    · rw [if_pos (by rw [h]), if_pos h]
      omega
    · rw [if_neg (fun e => h (bA_inj e)), if_neg h, idx_from x zs (i + 1)]
theorem idx_words (x : List UInt8) : Lib.idxOfS (wordTab.map bA) (bA x) = (idxE x : Int) - 1 := idx_from x wordTab 0
end Go.AB
namespace Go.Proofs.YtbghkodcfedebaaGreatDoor
open Go.RowKit Go.AB
set_option linter.unusedSimpArgs false
set_option linter.unusedVariables false
set_option linter.unusedSectionVars false

theorem tab_chg {P : Program} {w w' : World} {name : String} {k : IntKind} {zs : List Int} (h : Lib.TabIs P w name k zs) (hc : Chg [] w w') : Lib.TabIs P w' name k zs := by
  unfold Lib.TabIs World.var? at *
  cases hg : P.globalNamed name with
  | none => simp [hg] at h
  | some g =>
    simp only [hg, Option.bind_some] at h ⊢
    have hlt : g < w.heap.size := by
      rcases Nat.lt_or_ge g w.heap.size with h' | h'
      · exact h'
      · rw [Array.getElem?_eq_none h'] at h; simp at h
    rw [hc.block g hlt (by simp)]
    exact h
def ErrAt (g : Nat) (w : World) : Prop := ∃ te pe, w.cell? ⟨g, 0, none⟩ = some (.iface te pe)
/-- The library's variables stand as the row says. -/
structure VarsT (w : World) : Prop where
  pow : Lib.TabIs Tryz.prog w "internal/strconv.uint64pow10" .u64 Lib.pow10Tab
  sp : Lib.TabIs Tryz.prog w "strings.asciiSpace" .u8 Lib.asciiSpaceTab
  es : ErrAt 4 w
  er : ErrAt 5 w
  ml : ∃ m, w.cell? ⟨1, 0, none⟩ = some (.int .i64 m)
theorem VarsT.keep {w w' : World} (h : VarsT w) (hc : Chg [] w w') : VarsT w' :=
  ⟨tab_chg h.pow hc, tab_chg h.sp hc, by obtain ⟨t, p, e⟩ := h.es; exact ⟨t, p, hc.cell e (by simp)⟩, by obtain ⟨t, p, e⟩ := h.er; exact ⟨t, p, hc.cell e (by simp)⟩, by obtain ⟨m, e⟩ := h.ml; exact ⟨m, hc.cell e (by simp)⟩⟩
theorem chg_grow (w : World) (k : Nat) (os : Array Obj) : Chg [] w (Sort.grow (w.drewN k) os) := by
  refine ⟨rfl, rfl, rfl, ?_, fun i hi _ => ?_⟩
  · show w.heap.size ≤ (w.heap ++ os).size
    simp
  · show (w.heap ++ os)[i]? = w.heap[i]?
    rw [Array.getElem?_append_left hi]
theorem chg_bytes (w : World) (e : TypeId) (s : ByteArray) : Chg [] w (Lib.bytesWorld w e s) := by
  refine ⟨?_, ?_, ?_, ?_, fun k hk _ => Lib.bytesWorld_at_old w e s k hk⟩
  · rfl
  · rfl
  · rfl
  · unfold Lib.bytesWorld
    simp [World.freeze]
theorem itoaT (n : Int) (h0 : -9223372036854775808 ≤ n) (h1 : n ≤ 9223372036854775807) (w : World) (hv : VarsT w) :
    Calls Tryz.prog 70 #[.int .i64 n] w fun e w' => e = .returned (.string (bA (Lib.itoa n))) ∧ Chg [] w w' := by
  refine (Tryz.strconv_Itoa n h0 h1 w hv.pow).mono ?_
  rintro e w' ⟨rfl, k, os, rfl⟩
  exact ⟨rfl, chg_grow _ _ _⟩
/-- What Atoi answers. -/
def AtoP (s : List UInt8) (e : Ending) : Prop := (∃ v, Lib.atoiAll s = .ok v ∧ e = .returned (.tuple #[.int .i64 v, .nilIface])) ∨ (numE s = none ∧ ∃ (x : Int) (t : TypeId) (p : Value), e = .returned (.tuple #[.int .i64 x, .iface t p]))
theorem atoiT (s : List UInt8) (hs : s.length ≤ 281474976710656) (w : World) (hv : VarsT w) :
    Calls Tryz.prog 109 #[.string (bA s)] w fun e w' => AtoP s e ∧ Chg [] w w' := by
  cases h : Lib.atoiAll s with
  | ok v =>
    refine (Tryz.strconv_Atoi_ok (bA s) (by rw [bA_size]; omega) v h w).mono ?_
    rintro e w' ⟨rfl, rfl | ⟨t, rfl⟩⟩
    · exact ⟨.inl ⟨v, h, rfl⟩, Chg.refl _ _⟩
    · exact ⟨.inl ⟨v, h, rfl⟩, chg_bytes _ _ _⟩
  | _ => ?_
  · obtain ⟨te, pe, he⟩ := hv.es
    refine (Any.strconv_Atoi_syntax Tryz.laysC172 (bA s) (by rw [bA_size]; exact hs) h _ w he (.inr ⟨_, _, rfl⟩)).mono ?_
    rintro e w' ⟨N, rfl, _, _, hb⟩
    exact ⟨.inr ⟨by unfold numE; rw [h], _, _, _, rfl⟩, Chg.of_below hb _⟩
  · obtain ⟨te, pe, he⟩ := hv.er
    refine (Tryz.strconv_Atoi_range (bA s) (by rw [bA_size]; exact hs) h _ w he (.inr ⟨_, _, rfl⟩)).mono ?_
    rintro e w' ⟨N, rfl, _, _, hb⟩
    exact ⟨.inr ⟨by unfold numE; rw [h], _, _, _, rfl⟩, Chg.of_below hb _⟩
def CutP (s : List UInt8) (e : Ending) : Prop := match cutE s with
  | none => e = .returned (.tuple #[.string (bA s), .string (bA []), .bool false])
  | some (a, r) => e = .returned (.tuple #[.string (bA a), .string (bA r), .bool true])
theorem cutT (s : List UInt8) (hs : s.length < 4294967281) (w : World) (hv : VarsT w) :
    Calls Tryz.prog 50 #[.string (bA s), .string ⟨#[10]⟩] w fun e w' => CutP s e ∧ Chg [] w w' := by
  obtain ⟨m, hm⟩ := hv.ml
  refine (Tryz.strings_Cut (bA s) ⟨#[10]⟩ m w (by rw [bA_size]; exact hs) hm).mono ?_
  rintro e w' ⟨rfl, n, rfl⟩
  refine ⟨?_, Chg.of_drewN _ _ _⟩
  rw [show (bA s).data.toList = s from rfl, show (⟨#[10]⟩ : ByteArray).data.toList = [10] from rfl, cut_10]
  unfold CutP
  cases cutE s with
  | none => rfl
  | some p => rfl
/-- A list of texts in new memory. -/
def NewS (w : World) (l : List (List UInt8)) (e : Ending) (w' : World) : Prop :=
  ∃ b, e = .returned (.slice (some ⟨b, 0, none⟩) l.length l.length) ∧ w.heap.size ≤ b ∧ Chg [] w w' ∧ ∀ i (h : i < l.length), w'.cell? ⟨b, i, none⟩ = some (.string (bA l[i]))
theorem news_at {w : World} {l : List (List UInt8)} {t : TypeId} (i : Nat) (h : i < l.length) : (w.alloc (.cells (l.map fun s => Value.string (bA s)).toArray t)).cell? ⟨w.heap.size, i, none⟩ = some (.string (bA l[i])) := by
  refine (blk_cell (heap_alloc_new w _) i).trans ?_
  simp [h]
theorem splitT (s : List UInt8) (hs : s.length < 4294967281) (w : World) (hv : VarsT w) :
    Calls Tryz.prog 84 #[.string (bA s), .string ⟨#[32]⟩] w (NewS w (splitE s)) := by
  obtain ⟨m, hm⟩ := hv.ml
  obtain ⟨h1, h2⟩ := split_vals s
  refine (Tryz.strings_Split (bA s) ⟨#[32]⟩ m w (by rw [bA_size]; exact hs) hm (by decide)).mono ?_
  rintro e w' ⟨rfl, rfl⟩
  refine ⟨w.heap.size, ?_, Nat.le_refl _, (Chg.refl [] w).alloc _, fun i hi => ?_⟩
  · rw [h2]
  · rw [h1, List.map_map]
    exact news_at i hi
/-- The words in new memory. -/
def WordsP (w : World) (e : Ending) (w' : World) : Prop :=
  ∃ b, e = .returned (.slice (some ⟨b, 0, none⟩) 11 11) ∧ w.heap.size ≤ b ∧ Chg [] w w' ∧ ∀ i (h : i < 11), w'.cell? ⟨b, i, none⟩ = some (.string (bA (wordTab[i]'h)))
theorem words_calls (w : World) (hv : VarsT w) : Calls Tryz.prog 68 #[] w (WordsP w) := by
  have hf := Tryz.strings_Fields (bA wordsText) w (by decide) (fun j b hb => words_ascii b (List.mem_of_getElem? hb)) hv.sp
  rw [show (bA wordsText).data.toList = wordsText from rfl, words_fields] at hf
  have HF : Hid (Calls Tryz.prog 103 #[.string (bA wordsText)] w (WordsP w)) := hid (hf.mono (by
    rintro e w' ⟨rfl, rfl⟩
    exact ⟨w.heap.size, rfl, Nat.le_refl _, (Chg.refl [] w).alloc _, fun i hi => news_at (l := wordTab) i hi⟩))
  clear hf
  go_enter Tryz.func68, Tryz.ntmps68
  go_wp2_with (go_at_call 103; refine HF.out.mono ?_; rintro e w1 ⟨b, rfl, h1, h2, h3⟩; have HC := hid h3; clear h3)
  go_ret
  exact ⟨b, rfl, h1, h2, HC.out⟩
theorem indexT {w : World} {b : Nat} (h : ∀ i (hi : i < 11), w.cell? ⟨b, i, none⟩ = some (.string (bA (wordTab[i]'hi)))) (x : List UInt8) :
    Calls Tryz.prog 85 #[.slice (some ⟨b, 0, none⟩) 11 11, .string (bA x)] w fun e w' => e = .returned (.int .i64 ((idxE x : Int) - 1)) ∧ w' = w := by
  have hl : wordTab.length = 11 := rfl
  refine (Tryz.slices_Index_string b 0 11 11 (wordTab.map bA) (bA x) w (by simp [hl]) (by omega) (fun j hj => ?_)).mono ?_
  · simp only [List.length_map] at hj
    rw [Nat.zero_add, h j hj]
    simp [List.getD, hj]
  · rintro e w' ⟨rfl, rfl⟩
    rw [show (wordTab.map bA).take 11 = wordTab.map bA from rfl, idx_words]
    exact ⟨rfl, rfl⟩
end Go.Proofs.YtbghkodcfedebaaGreatDoor
