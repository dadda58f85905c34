/- Walks of the lexer: all tokens. -/
import Derived.Test.YtmahcabidggmeaaGreatDoorAe
import Derived.Deep.LoopGhost
import Derived.WalkMore
import Derived.Outline
set_option linter.unusedVariables false
set_option linter.unusedSectionVars false
set_option linter.unusedSimpArgs false
namespace Go.Proofs.YtmahcabidggmeaaGreatDoor
open Go.RowKit Go.AB
set_option linter.unusedSimpArgs false
set_option linter.unusedVariables false
set_option linter.unusedSectionVars false

def tokC (x : Tok) : List Value := [.int .i64 x.kind, .string ⟨x.text.toArray⟩, .int .i64 x.num, .int .i64 x.line, .int .i64 x.col]
/-- All tokens are put; what is wrong is answered. -/
def EachPost (w : World) (c : Nat) (p : List Tok × (Nat × Nat × Nat)) (e : Ending) (w' : World) : Prop :=
  ∃ r' ao' cap', Col w' c r' p.1.length (p.1.flatMap tokC) ao' cap' ∧ e = .returned (.agg #[.int .i64 p.2.1, .int .i64 p.2.2.1, .int .i64 p.2.2.2]) ∧ Chg [c] w w' ∧ Fresh w none r'

/-- Where the loop over the source stands. -/
structure At (w : World) (c : Nat) (s : ByteArray) (L : List UInt8) (gk : Nat) (wr : World) (a line begun : Nat) (T0 : List Tok) (r : Option Nat) (ao : Option Addr) (cap : Nat) : Prop where
  gh : gk + a = s.size + 1
  le : a ≤ s.size
  be : begun ≤ a
  ln : line ≤ a + 1
  lx : Lx wr (w.heap.size + 1) s a line begun
  col : Col wr c r T0.length (T0.flatMap tokC) ao cap
  eq : scanD L 1 1 = (T0 ++ (scanD (L.drop a) line (a - begun + 1)).1, (scanD (L.drop a) line (a - begun + 1)).2)
  chg : Chg [c] w wr
  fr : ∀ g, r = some g → w.heap.size + 2 ≤ g
  res : wr.heap[w.heap.size]? = some (.cells #[.int .i64 0, .int .i64 0, .int .i64 0] 30 (0, 0))

theorem At.len {w wr : World} {c : Nat} {s : ByteArray} {L : List UInt8} {gk a line begun : Nat} {T0 : List Tok} {r : Option Nat} {ao : Option Addr} {cap : Nat} (h : At w c s L gk wr a line begun T0 r ao cap) (hL : L.length = s.size) : T0.length ≤ s.size + 1 := by
  have h1 := scanD_len L 1 1
  rw [h.eq] at h1
  simp only [List.length_append] at h1
  omega

theorem Lx.set1 {w : World} {b : Nat} {s : ByteArray} {a l g : Nat} (h : Lx w b s a l g) (a' : Nat) : Lx (w.setCell ⟨b, 1, none⟩ (.int .i64 a')) b s a' l g ∧ Chg [b] w (w.setCell ⟨b, 1, none⟩ (.int .i64 a')) :=
  ⟨⟨by rw [blk_set h.blk]; rfl⟩, (Chg.refl [b] w).setCell (p := ⟨b, 1, none⟩) (.inl (by simp)) _⟩
theorem Lx.set23 {w : World} {b : Nat} {s : ByteArray} {a l g : Nat} (h : Lx w b s a l g) (l' g' : Nat) : Lx ((w.setCell ⟨b, 2, none⟩ (.int .i64 l')).setCell ⟨b, 3, none⟩ (.int .i64 g')) b s a l' g' ∧ Chg [b] w ((w.setCell ⟨b, 2, none⟩ (.int .i64 l')).setCell ⟨b, 3, none⟩ (.int .i64 g')) :=
  ⟨⟨by rw [blk_set (blk_set h.blk _ _)]; rfl⟩, ((Chg.refl [b] w).setCell (p := ⟨b, 2, none⟩) (.inl (by simp)) _).setCell (p := ⟨b, 3, none⟩) (.inl (by simp)) _⟩
theorem act1_x {L : List UInt8} {s : ByteArray} (hL : Hid (s.data.toList = L)) {a : Nat} (ha : a ≤ s.size) :
    match act1 (L.drop a) with
    | .pass n => a < s.size ∧ ((isBlank (byteAtB s a) = true ∧ n = 1) ∨ (isBlank (byteAtB s a) = false ∧ (byteAtB s a).toNat = 59 ∧ n = runLen notLf (L.drop a)))
    | .fault e => isBlank (byteAtB s a) = false ∧ (byteAtB s a).toNat ≠ 59 ∧ e ≠ 0 ∧ (tokAt (L.drop a)).1 = e
    | .tok k t v n => isBlank (byteAtB s a) = false ∧ (byteAtB s a).toNat ≠ 59 ∧ tokAt (L.drop a) = (0, k, t, v, n) := by
  by_cases h : a < s.size
  · have hd := drop_cons_of hL h
    have hx : byteAtB s a = s[a] := by unfold byteAtB; rw [dif_pos h]
    rw [hx]
    generalize s[a] = x at *
    rw [hd]
    generalize L.drop (a + 1) = r
    cases h1 : act1 (x :: r) with
    | pass n =>
      unfold act1 at h1
      simp only [List.head?_cons] at h1
      split at h1
      · rename_i hb; simp only [Act1.pass.injEq] at h1; exact ⟨h, .inl ⟨hb, h1.symm⟩⟩
      · split at h1
        · rename_i hb hc; simp only [Act1.pass.injEq] at h1; exact ⟨h, .inr ⟨by simpa using hb, hc, h1.symm⟩⟩
        · split at h1 <;> cases h1
    | fault e =>
      unfold act1 at h1
      simp only [List.head?_cons] at h1
      split at h1
      · cases h1
      · split at h1
        · cases h1
        · split at h1
          · rename_i hb hc he; simp only [Act1.fault.injEq] at h1; exact ⟨by simpa using hb, hc, by rw [← h1]; exact he, h1⟩
          · cases h1
    | tok k t v n =>
      unfold act1 at h1
      simp only [List.head?_cons] at h1
      split at h1
      · cases h1
      · split at h1
        · cases h1
        · split at h1
          · cases h1
          · rename_i hb hc he
            simp only [Act1.tok.injEq] at h1
            obtain ⟨rfl, rfl, rfl, rfl⟩ := h1
            simp only [ne_eq, Classical.not_not] at he
            refine ⟨by simpa using hb, hc, ?_⟩
            rw [← he]
  · have hx : byteAtB s a = 0 := by unfold byteAtB; rw [dif_neg h]
    rw [hx, List.drop_of_length_le (by rw [len_of hL]; omega)]
    exact ⟨by decide, by decide, rfl⟩

section
variable {w wr w2 : World} {c : Nat} {s : ByteArray} {L : List UInt8} {gk a line begun : Nat} {T0 : List Tok} {r : Option Nat} {ao : Option Addr} {cap : Nat}
theorem At.two (h : At w c s L gk wr a line begun T0 r ao cap) : w.heap.size + 2 ≤ wr.heap.size := by have := blk_lt h.lx.blk; omega
theorem At.pass (h : At w c s L gk wr a line begun T0 r ao cap) (hL : L.length = s.size) {n : Nat} (h1 : act1 (L.drop a) = .pass n) (hlx : Lx w2 (w.heap.size + 1) s (a + n) line begun) (hch : Chg [w.heap.size + 1] wr w2) (hcl : c < w.heap.size) :
    At w c s L (gk - n) w2 (a + n) line begun T0 r ao cap := by
  obtain ⟨hn1, hn2⟩ := act1_pass h1
  rw [List.length_drop] at hn2
  have hg := h.gh
  have hbe := h.be
  have hln := h.ln
  refine ⟨by omega, by omega, by omega, by omega, hlx, h.col.keep hch (by simp; omega) (fun g hg hm => by have := h.fr g hg; simp at hm; omega), ?_, h.chg.trans hch (fun x hx => .inr (by simp at hx; omega)), h.fr, hch.heap h.res (by simp)⟩
  have e := h.eq
  rw [scanD_eq (L.drop a), h1] at e
  simp only [List.drop_drop] at e
  rw [e, show a + n - begun + 1 = a - begun + 1 + n from by omega]
theorem At.tok (h : At w c s L gk wr a line begun T0 r ao cap) (hL : L.length = s.size) {k : Nat} {t : List UInt8} {v : Int} {n : Nat} (h1 : act1 (L.drop a) = .tok k t v n) (hk : k ≠ 7) {line' begun' : Nat} (hlb : (k = 6 ∧ line' = line + 1 ∧ begun' = a + n) ∨ (k ≠ 6 ∧ line' = line ∧ begun' = begun))
    (hlx : Lx w2 (w.heap.size + 1) s (a + n) line' begun') {r' : Option Nat} {ao' : Option Addr} {cap' : Nat} {xs : List Value} (hcol : Col w2 c r' (T0.length + 1) xs ao' cap') (hxs : xs = (T0 ++ [(⟨k, t, v, line, a - begun + 1⟩ : Tok)]).flatMap tokC) (hch : Chg ((w.heap.size + 1) :: c :: r.toList) wr w2) (hf : Fresh wr r r') (hcl : c < w.heap.size) :
    At w c s L (gk - n) w2 (a + n) line' begun' (T0 ++ [(⟨k, t, v, line, a - begun + 1⟩ : Tok)]) r' ao' cap' := by
  have h2 : L.drop a ≠ [] ∧ 1 ≤ k ∧ k ≤ 6 ∧ 1 ≤ n ∧ n ≤ (L.drop a).length := by
    rcases act1_tok h1 with ⟨_, h3, _⟩ | h3
    · exact absurd h3 hk
    · exact h3
  have hn2 := h2.2.2.2.2
  rw [List.length_drop] at hn2
  have hg := h.gh
  have hln := h.ln
  have hbe := h.be
  have hn1 := h2.2.2.2.1
  have hsz := h.two
  refine ⟨by omega, by omega, by rcases hlb with ⟨_, _, h3⟩ | ⟨_, _, h3⟩ <;> omega, by rcases hlb with ⟨_, h3, _⟩ | ⟨_, h3, _⟩ <;> omega, hlx, by rw [List.length_append]; rw [← hxs]; exact hcol, ?_, h.chg.trans hch (fun x hx => by
    rcases List.mem_cons.1 hx with h3 | h3
    · exact .inr (by omega)
    · rcases List.mem_cons.1 h3 with h4 | h4
      · exact .inl (by simp [h4])
      · exact .inr (by have := h.fr x (by simpa using h4); omega)), fun g hg => by rcases hf g hg with h3 | h3; exact h.fr g h3; omega, hch.heap h.res (by
    intro hm
    rcases List.mem_cons.1 hm with h3 | h3
    · omega
    · rcases List.mem_cons.1 h3 with h4 | h4
      · omega
      · have := h.fr _ (by simpa using h4); omega)⟩
  have e := h.eq
  rw [scanD_eq (L.drop a), h1] at e
  simp only [List.drop_drop, if_neg hk] at e
  rcases hlb with ⟨h3, rfl, rfl⟩ | ⟨h3, rfl, rfl⟩
  · rw [if_pos h3] at e
    rw [e]
    simp
  · rw [if_neg h3] at e
    rw [e, show a + n - begun' + 1 = a - begun' + 1 + n from by omega]
    simp
end

section
variable {w wr w2 : World} {c : Nat} {s : ByteArray} {L : List UInt8} {gk a line begun : Nat} {T0 : List Tok} {r : Option Nat} {ao : Option Addr} {cap : Nat}
theorem At.fault (h : At w c s L gk wr a line begun T0 r ao cap) {e : Nat} (h1 : act1 (L.drop a) = .fault e) (hch : Chg [w.heap.size] wr w2) (hcl : c < w.heap.size) {X Y Z : Int} (hX : X = (e : Int)) (hY : Y = (line : Int)) (hZ : Z = (a : Int) - (begun : Int) + 1) :
    EachPost w c (scanD L 1 1) (.returned (.agg #[.int .i64 X, .int .i64 Y, .int .i64 Z])) w2 := by
  have e1 := h.eq
  rw [scanD_eq (L.drop a), h1] at e1
  simp only [List.append_nil] at e1
  have hbe := h.be
  rw [e1]
  subst hX hY
  refine ⟨r, ao, cap, h.col.keep hch (by simp; omega) (fun g hg hm => by have := h.fr g hg; simp at hm; omega), by rw [hZ, show ((a - begun + 1 : Nat) : Int) = (a : Int) - (begun : Int) + 1 from by omega], h.chg.trans hch (fun x hx => .inr (by simp at hx; omega)), fun g hg => .inr (by have := h.fr g hg; omega)⟩
theorem At.stop (h : At w c s L gk wr a line begun T0 r ao cap) {t : List UInt8} {v : Int} {n : Nat} (h1 : act1 (L.drop a) = .tok 7 t v n) {r' : Option Nat} {ao' : Option Addr} {cap' : Nat} {xs : List Value} (hcol : Col w2 c r' (T0.length + 1) xs ao' cap') (hxs : xs = (T0 ++ [(⟨7, t, v, line, a - begun + 1⟩ : Tok)]).flatMap tokC) (hch : Chg (w.heap.size :: c :: r.toList) wr w2) (hf : Fresh wr r r') (hcl : c < w.heap.size) :
    EachPost w c (scanD L 1 1) (.returned (.agg #[.int .i64 0, .int .i64 0, .int .i64 0])) w2 := by
  have e1 := h.eq
  have h2 : t = [] ∧ v = 0 := by
    rcases act1_tok h1 with ⟨_, _, h3, h4, _⟩ | ⟨_, _, h3, _⟩
    · exact ⟨h3, h4⟩
    · omega
  obtain ⟨rfl, rfl⟩ := h2
  rw [scanD_eq (L.drop a), h1] at e1
  simp only [if_true] at e1
  have hsz := h.two
  rw [e1]
  refine ⟨r', ao', cap', by rw [List.length_append]; rw [← hxs]; exact hcol, rfl, h.chg.trans hch (fun x hx => by
    rcases List.mem_cons.1 hx with h3 | h3
    · exact .inr (by omega)
    · rcases List.mem_cons.1 h3 with h4 | h4
      · exact .inl (by simp [h4])
      · exact .inr (by have := h.fr x (by simpa using h4); omega)), fun g hg => .inr (by rcases hf g hg with h3 | h3; have := h.fr g h3; omega; omega)⟩
end

section
variable {w : World} {c : Nat} {s : ByteArray} (hc : Col w c none 0 [] none 0) (hs : s.size ≤ 1048576) (L : List UInt8) (hL : Hid (s.data.toList = L))
include hc hs hL

set_option maxHeartbeats 4000000 in
set_option maxRecDepth 100000 in
theorem each_calls : Calls Tryz.prog 38 #[.string s, .func (.func 39) #[] #[.pointer (some ⟨c, 0, none⟩)]] w (EachPost w c (scanD L 1 1)) := by
  have hlt := blk_lt hc.blk
  have HLN := hid (len_of hL)
  have hz : Chg [] w ((w.alloc (.cells #[.int .i64 0, .int .i64 0, .int .i64 0] 30)).alloc (.cells #[.string s, .int .i64 0, .int .i64 1, .int .i64 0] 120)) := ((Chg.refl [] w).alloc _).alloc _
  go_enter Tryz.func38, Tryz.ntmps38
  go_wp2_with fail
  go_step3
  go_wp2_with fail
  go_step3
  go_wp2_with fail
  go_loopg [] (s.size + 1) (fun gk wr => ∃ a line begun T0 r ao cap, At w c s L gk wr a line begun T0 r ao cap)
  case atStart => exact ⟨0, 1, 0, [], none, none, 0, ⟨by omega, by omega, by omega, by omega, ⟨by rw [show w.heap.size + 1 = (w.alloc (.cells #[.int .i64 0, .int .i64 0, .int .i64 0] 30)).heap.size from by simp]; exact heap_alloc_new _ _⟩, hc.keep hz (by simp) (by simp), by simp, hz.nil, fun g hg => by simp at hg, blk_alloc_old (heap_alloc_new w _) _⟩⟩
  case round =>
    obtain ⟨a, line, begun, T0, r, ao, cap, hA⟩ := hrel
    have x0 := hA.lx.c0
    have x1 := hA.lx.c1
    have x2 := hA.lx.c2
    have x3 := hA.lx.c3
    have xf := hA.lx.fr
    have hBA := byteAt_calls hA.lx (by omega) a
    have hbl := blk_lt hA.lx.blk
    have hX := act1_x hL hA.le
    have HX := hid hA
    obtain ⟨x, hx⟩ : ∃ x, byteAtB s a = x := ⟨_, rfl⟩
    rw [hx] at hBA hX
    have hax := hA.le
    have hbe := hA.be
    have hln := hA.ln
    have HBA := hid hBA
    have HXE := hid hx
    clear hBA hx
    cases h1 : act1 (L.drop a) with
    | pass n =>
      rw [h1] at hX
      obtain ⟨hal, hX⟩ := hX
      rcases hX with ⟨hb, rfl⟩ | ⟨hb, h59, hn⟩
      · have hs1 := hA.lx.set1 (a + 1)
        have HN := hid (HX.out.pass HLN.out h1 hs1.1 hs1.2 hlt)
        have hgk := hA.gh
        clear h1 hs1 HX hA
        have hbb : ((x.toNat : Int) == 9) = true ∨ (((x.toNat : Int) == 9) = false ∧ ((x.toNat : Int) == 13) = true) ∨ (((x.toNat : Int) == 9) = false ∧ ((x.toNat : Int) == 13) = false ∧ ((x.toNat : Int) == 32) = true) := by
          simp only [isBlank, Bool.or_eq_true, beq_iff_eq] at hb
          simp only [beq_iff_eq, beq_eq_false_iff_ne]
          omega
        clear hb
        rcases hbb with g1 | ⟨g1, g2⟩ | ⟨g1, g2, g3⟩
        all_goals
          go_wp2_with (go_at_call 66; refine HBA.out.mono ?_; rintro e w2 ⟨rfl, rfl⟩)
          go_roundg (gk - 1)
          case measure => omega
          case rel => exact ⟨a + 1, line, begun, T0, r, ao, cap, HN.out⟩
      · have hs1 := hA.lx.set1 (a + n)
        have HN := hid (HX.out.pass HLN.out h1 hs1.1 hs1.2 hlt)
        have hgk := (act1_pass h1).1
        have HR := hid (fun W (hW : Lx W (w.heap.size + 1) s a line begun) => run_notLf hW (by omega) a hax L hL)
        rw [← hn] at HR
        have hlx := hA.lx
        have g1 : ((x.toNat : Int) == 9) = false := by simp; omega
        have g2 : ((x.toNat : Int) == 13) = false := by simp; omega
        have g3 : ((x.toNat : Int) == 32) = false := by simp; omega
        have g4 : ((x.toNat : Int) == 59) = true := by simp; omega
        clear h1 hs1 hA hb h59 hn
        go_wp2_with (first
          | (go_at_call 66; refine HBA.out.mono ?_; rintro e w2 ⟨rfl, rfl⟩)
          | (go_at_call 67; refine (HR.out _ hlx).mono ?_; rintro e w2 ⟨rfl, rfl⟩))
        go_roundg (gk - n)
        case measure => have := HX.out.gh; omega
        case rel => exact ⟨a + n, line, begun, T0, r, ao, cap, HN.out⟩
    | fault e =>
      rw [h1] at hX
      obtain ⟨hb, h59, he, htk⟩ := hX
      have HT := hid (fun W (hW : Lx W (w.heap.size + 1) s a line begun) => (token_calls hW (by omega) L hL hax).mono (fun e' w' (hp : TokPost W a (L.drop a) e' w') => by unfold TokPost at hp; rw [htk, if_pos he] at hp; exact hp))
      have hlx := hA.lx
      have g1 : ((x.toNat : Int) == 9) = false := by simp [isBlank] at hb; simp; omega
      have g2 : ((x.toNat : Int) == 13) = false := by simp [isBlank] at hb; simp; omega
      have g3 : ((x.toNat : Int) == 32) = false := by simp [isBlank] at hb; simp; omega
      have g4 : ((x.toNat : Int) == 59) = false := by simp; omega
      have g5 : ((e : Int) != 0) = true := by simp; omega
      have g6 : ((e : Int) == 0) = false := by simp; omega
      have HE := hid h1
      clear hA hb h59 htk he h1
      go_wp2_with (first
        | (go_at_call 66; refine HBA.out.mono ?_; rintro e w2 ⟨rfl, rfl⟩)
        | (go_at_call 69; refine (HT.out _ hlx).mono ?_; rintro e w2 ⟨rfl, hc2⟩; unfold zeroTok; have hrs := fun o => blk_alloc_old (hc2.heap HX.out.res (by simp)) o; have z0 := fun o => (blk_cell (hrs o) 0).trans rfl; have z1 := fun o => (blk_cell (hrs o) 1).trans rfl; have z2 := fun o => (blk_cell (hrs o) 2).trans rfl; have zf := fun o i => blk_free (hrs o) i; clear hrs; have x1' := fun o => (hlx.keep (hc2.alloc o) (by simp)).c1; have x2' := fun o => (hlx.keep (hc2.alloc o) (by simp)).c2; have x3' := fun o => (hlx.keep (hc2.alloc o) (by simp)).c3; have hz2 : w.heap.size + 2 ≤ w2.heap.size := (by have := HX.out.two; have := hc2.size; omega); have n1 : w.heap.size + 1 ≠ w2.heap.size := (by omega); have n2 : w2.heap.size ≠ w.heap.size + 1 := (by omega)))
      go_region
      go_wp2
      rw [Exit.noGoto_ret]
      have hc2n : Chg [w.heap.size] wr w2 := hc2.nil
      exact bodyPost_ret (v := .agg #[.int .i64 e, .int .i64 line, .int .i64 ((a : Int) - (begun : Int) + 1)]) (by simp [results, Tryz.results38, go_sem, z0, z1, z2]) rfl (HX.out.fault HE.out (by repeat (first | with_reducible exact Chg.refl _ _ | with_reducible exact hc2n | with_reducible refine Chg.setCell ?_ (by first | exact .inr (Nat.le_refl _) | (refine .inr ?_; first | omega | (simp; done) | (simp; omega)) | (refine .inl ?_; simp; done)) _ | with_reducible refine Chg.drewN ?_ _ | with_reducible refine Chg.drew ?_ | with_reducible refine Chg.alloc ?_ _)) hlt rfl rfl rfl)
    | tok k t v n =>
      rw [h1] at hX
      obtain ⟨hb, h59, htk⟩ := hX
      have HT := hid (fun W (hW : Lx W (w.heap.size + 1) s a line begun) => (token_calls hW (by omega) L hL hax).mono (fun e' w' (hp : TokPost W a (L.drop a) e' w') => by unfold TokPost at hp; rw [htk, if_neg (by simp)] at hp; exact hp))
      have hlx := hA.lx
      have hcol := hA.col
      have hlen := hA.len HLN.out
      have hfr := hA.fr
      have hkn := act1_tok h1
      have g1 : ((x.toNat : Int) == 9) = false := by simp [isBlank] at hb; simp; omega
      have g2 : ((x.toNat : Int) == 13) = false := by simp [isBlank] at hb; simp; omega
      have g3 : ((x.toNat : Int) == 32) = false := by simp [isBlank] at hb; simp; omega
      have g4 : ((x.toNat : Int) == 59) = false := by simp; omega
      have HE := hid h1
      have HF := hid hfr
      have HK := hid hkn
      clear hA hb h59 htk h1 hfr hkn
      have hk3 : (((k : Int) == 7) = true ∧ k = 7) ∨ (((k : Int) == 7) = false ∧ ((k : Int) == 6) = true ∧ k ≠ 7 ∧ k = 6) ∨ (((k : Int) == 7) = false ∧ ((k : Int) == 6) = false ∧ k ≠ 7 ∧ k ≠ 6) := by
        simp only [beq_iff_eq, beq_eq_false_iff_ne]
        omega
      rcases hk3 with ⟨q1, q2⟩ | ⟨q1, q2, q3, q4⟩ | ⟨q1, q2, q3, q4⟩
      · have HQ := hid q2
        clear q2
        go_wp2_with (first
          | (go_at_call 66; refine HBA.out.mono ?_; rintro e w2 ⟨rfl, rfl⟩)
          | (go_at_call 69; refine (HT.out _ hlx).mono ?_; rintro e w2 ⟨rfl, hc2⟩; unfold tokV; have x1' := fun o => (hlx.keep (hc2.alloc o) (by simp)).c1; have x2' := fun o => (hlx.keep (hc2.alloc o) (by simp)).c2; have x3' := fun o => (hlx.keep (hc2.alloc o) (by simp)).c3; have hz2 : w.heap.size + 2 ≤ w2.heap.size := (by have := HX.out.two; have := hc2.size; omega); have n1 : w.heap.size + 1 ≠ w2.heap.size := (by omega); have n2 : w2.heap.size ≠ w.heap.size + 1 := (by omega)))
        go_region
        have hcol4 := fun o => (hcol.keep (hc2.alloc o) (by simp) (by simp)).keep (Chg.of_drewN [] _ 1) (by simp) (by simp)
        go_wp2_with (go_at_call 39; refine halt (fun X hX => ?_))
        rw [hX.out]; clear hX
        have hrl := hcol.row.lt
        have hnr : ∀ b', w2.heap.size ≤ b' ∨ b' = w.heap.size ∨ b' = w.heap.size + 1 → b' ∉ c :: r.toList := by
          intro b' hb' hm
          have hz3 := hc2.size
          rcases List.mem_cons.1 hm with h3 | h3
          · omega
          · have h4 : r = some b' := by simpa using h3
            have := HF.out b' h4
            have := hrl b' h4
            omega
        refine (put_calls (hcol4 _) (by omega) _ _ _ _ _).mono ?_
        rintro e w5 ⟨rfl, r5, ao5, cap5, hcol5, hc5, hf5⟩
        have hc24 : Chg [] w2 _ := ((Chg.refl [] w2).alloc (.cells #[.int .i64 k, .string ⟨t.toArray⟩, .int .i64 v, .int .i64 line, .int .i64 ((a : Int) - (begun : Int) + 1)] 63)).drewN 1
        have yt : w5.heap[w2.heap.size]? = some (.cells #[.int .i64 k, .string ⟨t.toArray⟩, .int .i64 v, .int .i64 line, .int .i64 ((a : Int) - (begun : Int) + 1)] 63 (0, 0)) := hc5.heap (heap_alloc_new w2 _) (hnr _ (.inl (Nat.le_refl _)))
        have yk : w5.cell? ⟨w2.heap.size, 0, none⟩ = some (.int .i64 (k : Nat)) := (blk_cell yt 0).trans rfl
        have hres5 : w5.heap[w.heap.size]? = some (.cells #[.int .i64 0, .int .i64 0, .int .i64 0] 30 (0, 0)) := hc5.heap (hc24.heap (hc2.heap HX.out.res (by simp)) (by simp)) (hnr _ (.inr (.inl rfl)))
        have hlx5 : Lx w5 (w.heap.size + 1) s a line begun := (hlx.keep (hc2.trans' hc24) (by simp)).keep hc5 (hnr _ (.inr (.inr rfl)))
        have hC5 : Chg (c :: r.toList) wr w5 := (hc2.trans' hc24).nil.trans' hc5
        have hxs : (T0.flatMap tokC ++ [.int .i64 k, .string ⟨t.toArray⟩, .int .i64 v, .int .i64 line, .int .i64 ((a : Int) - (begun : Int) + 1)]) = (T0 ++ [(⟨k, t, v, line, a - begun + 1⟩ : Tok)]).flatMap tokC := by
          simp [tokC]; omega
        have hf5' : Fresh wr r r5 := hf5.mono (by have := hc2.size; have := hc24.size; exact Nat.le_trans hc2.size hc24.size)
        have HXS := hid hxs
        clear hxs yt hc24 hnr hrl hcol4 hcol hlx
        have z0 := (blk_cell hres5 0).trans rfl
        have z1 := (blk_cell hres5 1).trans rfl
        have z2 := (blk_cell hres5 2).trans rfl
        have zf := fun i => blk_free hres5 i
        clear hres5 hlx5
        go_wp2
        rw [Exit.noGoto_ret]
        have hC5n : Chg (w.heap.size :: c :: r.toList) wr w5 := hC5.mono (fun x hx => .inl (List.mem_cons_of_mem _ hx))
        obtain rfl : k = 7 := HQ.out
        have hcw : Chg [w.heap.size] w5 (((w5.setCell ⟨w.heap.size, 0, none⟩ (.int .i64 0)).setCell ⟨w.heap.size, 1, none⟩ (.int .i64 0)).setCell ⟨w.heap.size, 2, none⟩ (.int .i64 0)) := (by repeat (first | with_reducible exact Chg.refl _ _ | with_reducible exact Chg.refl _ _ | with_reducible refine Chg.setCell ?_ (by first | exact .inr (Nat.le_refl _) | (refine .inr ?_; first | omega | (simp; done) | (simp; omega)) | (refine .inl ?_; simp; done)) _ | with_reducible refine Chg.drewN ?_ _ | with_reducible refine Chg.drew ?_ | with_reducible refine Chg.alloc ?_ _))
        exact bodyPost_ret (v := .agg #[.int .i64 0, .int .i64 0, .int .i64 0]) (by simp [results, Tryz.results38, go_sem, z0, z1, z2]) rfl (HX.out.stop HE.out (hcol5.keep hcw (by simp; omega) (fun g hg hm => by rcases hf5' g hg with h3 | h3; have := HF.out g h3; simp at hm; omega; simp at hm; have := HX.out.two; omega)) HXS.out (hC5n.trans hcw (fun x hx => .inl (by simp at hx; simp [hx]))) hf5' hlt)
      · have HQ := hid q4
        have HQ7 := hid q3
        clear q3 q4
        go_wp2_with (first
          | (go_at_call 66; refine HBA.out.mono ?_; rintro e w2 ⟨rfl, rfl⟩)
          | (go_at_call 69; refine (HT.out _ hlx).mono ?_; rintro e w2 ⟨rfl, hc2⟩; unfold tokV; have x1' := fun o => (hlx.keep (hc2.alloc o) (by simp)).c1; have x2' := fun o => (hlx.keep (hc2.alloc o) (by simp)).c2; have x3' := fun o => (hlx.keep (hc2.alloc o) (by simp)).c3; have hz2 : w.heap.size + 2 ≤ w2.heap.size := (by have := HX.out.two; have := hc2.size; omega); have n1 : w.heap.size + 1 ≠ w2.heap.size := (by omega); have n2 : w2.heap.size ≠ w.heap.size + 1 := (by omega)))
        go_region
        have hcol4 := fun o => (hcol.keep (hc2.alloc o) (by simp) (by simp)).keep (Chg.of_drewN [] _ 1) (by simp) (by simp)
        go_wp2_with (go_at_call 39; refine halt (fun X hX => ?_))
        rw [hX.out]; clear hX
        have hrl := hcol.row.lt
        have hnr : ∀ b', w2.heap.size ≤ b' ∨ b' = w.heap.size ∨ b' = w.heap.size + 1 → b' ∉ c :: r.toList := by
          intro b' hb' hm
          have hz3 := hc2.size
          rcases List.mem_cons.1 hm with h3 | h3
          · omega
          · have h4 : r = some b' := by simpa using h3
            have := HF.out b' h4
            have := hrl b' h4
            omega
        refine (put_calls (hcol4 _) (by omega) _ _ _ _ _).mono ?_
        rintro e w5 ⟨rfl, r5, ao5, cap5, hcol5, hc5, hf5⟩
        have hc24 : Chg [] w2 _ := ((Chg.refl [] w2).alloc (.cells #[.int .i64 k, .string ⟨t.toArray⟩, .int .i64 v, .int .i64 line, .int .i64 ((a : Int) - (begun : Int) + 1)] 63)).drewN 1
        have yt : w5.heap[w2.heap.size]? = some (.cells #[.int .i64 k, .string ⟨t.toArray⟩, .int .i64 v, .int .i64 line, .int .i64 ((a : Int) - (begun : Int) + 1)] 63 (0, 0)) := hc5.heap (heap_alloc_new w2 _) (hnr _ (.inl (Nat.le_refl _)))
        have yk : w5.cell? ⟨w2.heap.size, 0, none⟩ = some (.int .i64 (k : Nat)) := (blk_cell yt 0).trans rfl
        have hres5 : w5.heap[w.heap.size]? = some (.cells #[.int .i64 0, .int .i64 0, .int .i64 0] 30 (0, 0)) := hc5.heap (hc24.heap (hc2.heap HX.out.res (by simp)) (by simp)) (hnr _ (.inr (.inl rfl)))
        have hlx5 : Lx w5 (w.heap.size + 1) s a line begun := (hlx.keep (hc2.trans' hc24) (by simp)).keep hc5 (hnr _ (.inr (.inr rfl)))
        have hC5 : Chg (c :: r.toList) wr w5 := (hc2.trans' hc24).nil.trans' hc5
        have hxs : (T0.flatMap tokC ++ [.int .i64 k, .string ⟨t.toArray⟩, .int .i64 v, .int .i64 line, .int .i64 ((a : Int) - (begun : Int) + 1)]) = (T0 ++ [(⟨k, t, v, line, a - begun + 1⟩ : Tok)]).flatMap tokC := by
          simp [tokC]; omega
        have hf5' : Fresh wr r r5 := hf5.mono (by have := hc2.size; have := hc24.size; exact Nat.le_trans hc2.size hc24.size)
        have HXS := hid hxs
        clear hxs yt hc24 hnr hrl hcol4 hcol hlx
        have y1 := hlx5.c1
        have y2 := hlx5.c2
        have y3 := hlx5.c3
        have yf := hlx5.fr
        have hC5n : Chg ((w.heap.size + 1) :: c :: r.toList) wr w5 := hC5.mono (fun x hx => .inl (List.mem_cons_of_mem _ hx))
        have hr5b : ∀ g, r5 = some g → g ∉ [w.heap.size + 1] := fun g hg hm => by rcases hf5' g hg with h3 | h3; have := HF.out g h3; simp at hm; omega; simp at hm; have := HX.out.two; omega
        have hgk := HX.out.gh
        have hs1 := hlx5.set1 (a + n)
        have hs2 := hs1.1.set23 (line + 1) (a + n)
        have hs12 := hs1.2.trans' hs2.2
        have HN := hid (HX.out.tok HLN.out HE.out HQ7.out (.inl ⟨HQ.out, rfl, rfl⟩) hs2.1 (hcol5.keep hs12 (by simp; omega) hr5b) HXS.out (hC5n.trans hs12 (fun x hx => .inl (by simp at hx; simp [hx]))) hf5' hlt)
        have hn1 : 1 ≤ n := by rcases HK.out with ⟨_, h3, _⟩ | h3; exact absurd h3 HQ7.out; exact h3.2.2.2.1
        have hn2 : n ≤ s.size - a := by rcases HK.out with ⟨_, h3, _⟩ | h3; exact absurd h3 HQ7.out; have := h3.2.2.2.2; rw [List.length_drop, HLN.out] at this; exact this
        clear hs1 hs2 hs12 hcol5 hC5 hC5n hf5 hf5' hr5b hc5 HT HK hc2
        go_wp2
        go_roundg (gk - n)
        case measure => omega
        case rel => exact ⟨a + n, line + 1, a + n, _, r5, ao5, cap5, HN.out⟩
      · have HQ := hid q4
        have HQ7 := hid q3
        clear q3 q4
        go_wp2_with (first
          | (go_at_call 66; refine HBA.out.mono ?_; rintro e w2 ⟨rfl, rfl⟩)
          | (go_at_call 69; refine (HT.out _ hlx).mono ?_; rintro e w2 ⟨rfl, hc2⟩; unfold tokV; have x1' := fun o => (hlx.keep (hc2.alloc o) (by simp)).c1; have x2' := fun o => (hlx.keep (hc2.alloc o) (by simp)).c2; have x3' := fun o => (hlx.keep (hc2.alloc o) (by simp)).c3; have hz2 : w.heap.size + 2 ≤ w2.heap.size := (by have := HX.out.two; have := hc2.size; omega); have n1 : w.heap.size + 1 ≠ w2.heap.size := (by omega); have n2 : w2.heap.size ≠ w.heap.size + 1 := (by omega)))
        go_region
        have hcol4 := fun o => (hcol.keep (hc2.alloc o) (by simp) (by simp)).keep (Chg.of_drewN [] _ 1) (by simp) (by simp)
        go_wp2_with (go_at_call 39; refine halt (fun X hX => ?_))
        rw [hX.out]; clear hX
        have hrl := hcol.row.lt
        have hnr : ∀ b', w2.heap.size ≤ b' ∨ b' = w.heap.size ∨ b' = w.heap.size + 1 → b' ∉ c :: r.toList := by
          intro b' hb' hm
          have hz3 := hc2.size
          rcases List.mem_cons.1 hm with h3 | h3
          · omega
          · have h4 : r = some b' := by simpa using h3
            have := HF.out b' h4
            have := hrl b' h4
            omega
        refine (put_calls (hcol4 _) (by omega) _ _ _ _ _).mono ?_
        rintro e w5 ⟨rfl, r5, ao5, cap5, hcol5, hc5, hf5⟩
        have hc24 : Chg [] w2 _ := ((Chg.refl [] w2).alloc (.cells #[.int .i64 k, .string ⟨t.toArray⟩, .int .i64 v, .int .i64 line, .int .i64 ((a : Int) - (begun : Int) + 1)] 63)).drewN 1
        have yt : w5.heap[w2.heap.size]? = some (.cells #[.int .i64 k, .string ⟨t.toArray⟩, .int .i64 v, .int .i64 line, .int .i64 ((a : Int) - (begun : Int) + 1)] 63 (0, 0)) := hc5.heap (heap_alloc_new w2 _) (hnr _ (.inl (Nat.le_refl _)))
        have yk : w5.cell? ⟨w2.heap.size, 0, none⟩ = some (.int .i64 (k : Nat)) := (blk_cell yt 0).trans rfl
        have hres5 : w5.heap[w.heap.size]? = some (.cells #[.int .i64 0, .int .i64 0, .int .i64 0] 30 (0, 0)) := hc5.heap (hc24.heap (hc2.heap HX.out.res (by simp)) (by simp)) (hnr _ (.inr (.inl rfl)))
        have hlx5 : Lx w5 (w.heap.size + 1) s a line begun := (hlx.keep (hc2.trans' hc24) (by simp)).keep hc5 (hnr _ (.inr (.inr rfl)))
        have hC5 : Chg (c :: r.toList) wr w5 := (hc2.trans' hc24).nil.trans' hc5
        have hxs : (T0.flatMap tokC ++ [.int .i64 k, .string ⟨t.toArray⟩, .int .i64 v, .int .i64 line, .int .i64 ((a : Int) - (begun : Int) + 1)]) = (T0 ++ [(⟨k, t, v, line, a - begun + 1⟩ : Tok)]).flatMap tokC := by
          simp [tokC]; omega
        have hf5' : Fresh wr r r5 := hf5.mono (by have := hc2.size; have := hc24.size; exact Nat.le_trans hc2.size hc24.size)
        have HXS := hid hxs
        clear hxs yt hc24 hnr hrl hcol4 hcol hlx
        have y1 := hlx5.c1
        have yf := hlx5.fr
        have hC5n : Chg ((w.heap.size + 1) :: c :: r.toList) wr w5 := hC5.mono (fun x hx => .inl (List.mem_cons_of_mem _ hx))
        have hr5b : ∀ g, r5 = some g → g ∉ [w.heap.size + 1] := fun g hg hm => by rcases hf5' g hg with h3 | h3; have := HF.out g h3; simp at hm; omega; simp at hm; have := HX.out.two; omega
        have hgk := HX.out.gh
        have hs1 := hlx5.set1 (a + n)
        have hs12 := hs1.2
        have HN := hid (HX.out.tok HLN.out HE.out HQ7.out (.inr ⟨HQ.out, rfl, rfl⟩) hs1.1 (hcol5.keep hs12 (by simp; omega) hr5b) HXS.out (hC5n.trans hs12 (fun x hx => .inl (by simp at hx; simp [hx]))) hf5' hlt)
        have hn1 : 1 ≤ n := by rcases HK.out with ⟨_, h3, _⟩ | h3; exact absurd h3 HQ7.out; exact h3.2.2.2.1
        have hn2 : n ≤ s.size - a := by rcases HK.out with ⟨_, h3, _⟩ | h3; exact absurd h3 HQ7.out; have := h3.2.2.2.2; rw [List.length_drop, HLN.out] at this; exact this
        clear hs1 hs12 hcol5 hC5 hC5n hf5 hf5' hr5b hc5 HT HK hc2
        go_wp2
        go_roundg (gk - n)
        case measure => omega
        case rel => exact ⟨a + n, line, begun, _, r5, ao5, cap5, HN.out⟩
end
end Go.Proofs.YtmahcabidggmeaaGreatDoor
