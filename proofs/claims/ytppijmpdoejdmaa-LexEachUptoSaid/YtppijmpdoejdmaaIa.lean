/- Walks of the lexer: what each gives, one by one, to whatever takes it. -/
import Derived.Test.YtppijmpdoejdmaaAf
import Derived.Test.YtppijmpdoejdmaaIt
import Derived.OwnWalkIn
import Derived.Deep.DeepCutAuto
namespace Go.Proofs.Ytppijmpdoejdmaa
open Go.RowKit Go.AB
set_option linter.unusedSimpArgs false
set_option linter.unusedVariables false
set_option linter.unusedSectionVars false
attribute [local go_sem] Oper.semAt_some

/-- Where the loop over the source stands. -/
structure AtJ (w : World) (J : List Tok → World → Prop) (s : ByteArray) (L : List UInt8) (gk : Nat) (wr : World) (a line begun : Nat) (T0 : List Tok) : Prop where
  gh : gk + a = s.size + 1
  le : a ≤ s.size
  be : begun ≤ a
  ln : line ≤ a + 1
  lx : Lx wr (w.heap.size + 1) s a line begun
  eq : scanD L 1 1 = (T0 ++ (scanD (L.drop a) line (a - begun + 1)).1, (scanD (L.drop a) line (a - begun + 1)).2)
  j : J T0 wr
  res : wr.heap[w.heap.size]? = some (.cells #[.int .i64 0, .int .i64 0, .int .i64 0] 28 (0, 0))

section
variable {w wr w2 : World} {J : List Tok → World → Prop} {s : ByteArray} {L : List UInt8} {gk a line begun : Nat} {T0 : List Tok}
theorem AtJ.two (h : AtJ w J s L gk wr a line begun T0) : w.heap.size + 2 ≤ wr.heap.size := by have := blk_lt h.lx.blk; omega
theorem AtJ.pass (h : AtJ w J s L gk wr a line begun T0) (hJ : Abide w.heap.size 2 J) (hL : L.length = s.size) {n : Nat} (h1 : act1 (L.drop a) = .pass n) (hlx : Lx w2 (w.heap.size + 1) s (a + n) line begun) (hch : Chg [w.heap.size + 1] wr w2) :
    AtJ w J s L (gk - n) w2 (a + n) line begun T0 := by
  obtain ⟨hn1, hn2⟩ := act1_pass h1
  rw [List.length_drop] at hn2
  have hg := h.gh
  have hbe := h.be
  have hln := h.ln
  refine ⟨by omega, by omega, by omega, by omega, hlx, ?_, hJ _ _ _ _ h.j hch (fun b hb => by simp at hb; omega), hch.heap h.res (by simp)⟩
  have e := h.eq
  rw [scanD_eq (L.drop a), h1] at e
  simp only [List.drop_drop] at e
  rw [e, show a + n - begun + 1 = a - begun + 1 + n from by omega]
theorem AtJ.tok (h : AtJ w J s L gk wr a line begun T0) (hL : L.length = s.size) {k : Nat} {t : List UInt8} {v : Int} {n : Nat} (h1 : act1 (L.drop a) = .tok k t v n) (hk : k ≠ 7) {line' begun' : Nat} (hlb : (k = 6 ∧ line' = line + 1 ∧ begun' = a + n) ∨ (k ≠ 6 ∧ line' = line ∧ begun' = begun))
    (hlx : Lx w2 (w.heap.size + 1) s (a + n) line' begun') (hj : J (T0 ++ [(⟨k, t, v, line, a - begun + 1⟩ : Tok)]) w2) (hres : w2.heap[w.heap.size]? = some (.cells #[.int .i64 0, .int .i64 0, .int .i64 0] 28 (0, 0))) :
    AtJ w J s L (gk - n) w2 (a + n) line' begun' (T0 ++ [(⟨k, t, v, line, a - begun + 1⟩ : Tok)]) := by
  have h2 : L.drop a ≠ [] ∧ 1 ≤ k ∧ k ≤ 6 ∧ 1 ≤ n ∧ n ≤ (L.drop a).length := by
    rcases act1_tok h1 with ⟨_, h3, _⟩ | h3
    · exact absurd h3 hk
    · exact h3
  have hn2 := h2.2.2.2.2
  rw [List.length_drop] at hn2
  have hg := h.gh
  have hln := h.ln
  have hbe := h.be
  have hn1 := h2.2.2.2.1
  refine ⟨by omega, by omega, by rcases hlb with ⟨_, _, h3⟩ | ⟨_, _, h3⟩ <;> omega, by rcases hlb with ⟨_, h3, _⟩ | ⟨_, h3, _⟩ <;> omega, hlx, ?_, hj, hres⟩
  have e := h.eq
  rw [scanD_eq (L.drop a), h1] at e
  simp only [List.drop_drop, if_neg hk] at e
  rcases hlb with ⟨h3, rfl, rfl⟩ | ⟨h3, rfl, rfl⟩
  · rw [if_pos h3] at e
    rw [e]
    simp
  · rw [if_neg h3] at e
    rw [e, show a + n - begun' + 1 = a - begun' + 1 + n from by omega]
    simp
theorem AtJ.prefix (h : AtJ w J s L gk wr a line begun T0) {k : Nat} {t : List UInt8} {v : Int} {n : Nat} (h1 : act1 (L.drop a) = .tok k t v n) : T0 ++ [(⟨k, t, v, line, a - begun + 1⟩ : Tok)] <+: (scanD L 1 1).1 := by
  have e := h.eq
  rw [scanD_eq (L.drop a), h1] at e
  simp only at e
  split at e
  · rename_i hk
    have h2 : t = [] ∧ v = 0 := by
      rcases act1_tok h1 with ⟨_, _, h3, h4, _⟩ | ⟨_, _, h3, _⟩
      · exact ⟨h3, h4⟩
      · omega
    obtain ⟨rfl, rfl⟩ := h2
    rw [e, hk]
    exact List.prefix_refl _
  · split at e
    · rw [e]; exact ⟨_, by simp; rfl⟩
    · rw [e]; exact ⟨_, by simp; rfl⟩
theorem AtJ.fault (h : AtJ w J s L gk wr a line begun T0) {e : Nat} (h1 : act1 (L.drop a) = .fault e) : (scanD L 1 1).1 = T0 := by
  have e1 := h.eq
  rw [scanD_eq (L.drop a), h1] at e1
  rw [e1]; simp
theorem AtJ.stop (h : AtJ w J s L gk wr a line begun T0) {t : List UInt8} {v : Int} {n : Nat} (h1 : act1 (L.drop a) = .tok 7 t v n) : (scanD L 1 1).1 = T0 ++ [(⟨7, t, v, line, a - begun + 1⟩ : Tok)] := by
  have e1 := h.eq
  have h2 : t = [] ∧ v = 0 := by
    rcases act1_tok h1 with ⟨_, _, h3, h4, _⟩ | ⟨_, _, h3, _⟩
    · exact ⟨h3, h4⟩
    · omega
  obtain ⟨rfl, rfl⟩ := h2
  rw [scanD_eq (L.drop a), h1] at e1
  simp only [if_true] at e1
  rw [e1]
end

section
variable {w : World} {s : ByteArray} (hs : s.size ≤ 1048576) (L : List UInt8) (hL : Hid (s.data.toList = L))
include hs hL

set_option maxHeartbeats 4000000 in
set_option maxRecDepth 100000 in
theorem each_gives {l : Nat} {J Jx : List Tok → World → Prop} (hJ : Abide w.heap.size 2 J) (hJx : Abide w.heap.size 2 Jx)
    (hY : ∀ S0 pre x A0 A, pre ++ [x] <+: (scanD L 1 1).1 → J pre A0 → w.heap.size + 2 ≤ A0.heap.size → Chg S0 A0 A → Mid w.heap.size 2 S0 → YieldAt Fence.wide 0 Try.prog l #[.agg (tokC x).toArray] A fun e B =>
      Rnd w.heap.size 2 A0.heap.size A B ∧ ((e = .returned (.bool true) ∧ J (pre ++ [x]) B) ∨ (e = .returned (.bool false) ∧ Jx (pre ++ [x]) B)))
    (h0 : J [] w) : Calls Try.prog 23 #[.string s, .func (.yield l) #[] #[]] w fun e W' => (∃ v, e = .returned v) ∧ (J (scanD L 1 1).1 W' ∨ ∃ pre, pre <+: (scanD L 1 1).1 ∧ Jx pre W') := by
  have HLN := hid (len_of hL)
  have hz : Chg [] w ((w.alloc (.cells #[.int .i64 0, .int .i64 0, .int .i64 0] 28)).alloc (.cells #[.string s, .int .i64 0, .int .i64 1, .int .i64 0] 60)) := ((Chg.refl [] w).alloc _).alloc _
  go_enter Try.func23, Try.ntmps23
  go_wp2_with fail
  go_step3
  go_wp2_with fail
  go_step3
  go_wp2_with fail
  go_loopg [] (s.size + 1) (fun gk wr => ∃ a line begun T0, AtJ w J s L gk wr a line begun T0)
  case atStart => exact ⟨0, 1, 0, [], ⟨by omega, by omega, by omega, by omega, ⟨by rw [show w.heap.size + 1 = (w.alloc (.cells #[.int .i64 0, .int .i64 0, .int .i64 0] 28)).heap.size from by simp]; exact heap_alloc_new _ _⟩, by simp, hJ _ _ _ _ h0 hz (Mid.nil _ _), blk_alloc_old (heap_alloc_new w _) _⟩⟩
  case round =>
    obtain ⟨a, line, begun, T0, hA⟩ := hrel
    have x0 := hA.lx.c0
    have x1 := hA.lx.c1
    have x2 := hA.lx.c2
    have x3 := hA.lx.c3
    have xf := hA.lx.fr
    have hBA := byteAt_calls hA.lx (by omega) a
    have hbl := blk_lt hA.lx.blk
    have hX := act1_x hL hA.le
    have HX := hid hA
    obtain ⟨x, hx⟩ : ∃ x, byteAtB s a = x := ⟨_, rfl⟩
    rw [hx] at hBA hX
    have hax := hA.le
    have hbe := hA.be
    have hln := hA.ln
    have HBA := hid hBA
    have HXE := hid hx
    clear hBA hx
    cases h1 : act1 (L.drop a) with
    | pass n =>
      rw [h1] at hX
      obtain ⟨hal, hX⟩ := hX
      rcases hX with ⟨hb, rfl⟩ | ⟨hb, h59, hn⟩
      · have hs1 := hA.lx.set1 (a + 1)
        have HN := hid (HX.out.pass hJ HLN.out h1 hs1.1 hs1.2)
        have hgk := hA.gh
        clear h1 hs1 HX hA
        have hbb : ((x.toNat : Int) == 9) = true ∨ (((x.toNat : Int) == 9) = false ∧ ((x.toNat : Int) == 13) = true) ∨ (((x.toNat : Int) == 9) = false ∧ ((x.toNat : Int) == 13) = false ∧ ((x.toNat : Int) == 32) = true) := by
          simp only [isBlank, Bool.or_eq_true, beq_iff_eq] at hb
          simp only [beq_iff_eq, beq_eq_false_iff_ne]
          omega
        clear hb
        rcases hbb with g1 | ⟨g1, g2⟩ | ⟨g1, g2, g3⟩
        all_goals
          go_wp2_with (go_at_call 29; refine HBA.out.mono ?_; rintro e w2 ⟨rfl, rfl⟩)
          go_roundg (gk - 1)
          case measure => omega
          case rel => exact ⟨a + 1, line, begun, T0, HN.out⟩
      · have hs1 := hA.lx.set1 (a + n)
        have HN := hid (HX.out.pass hJ HLN.out h1 hs1.1 hs1.2)
        have hgk := (act1_pass h1).1
        have HR := hid (fun W (hW : Lx W (w.heap.size + 1) s a line begun) => run_notLf hW (by omega) a hax L hL)
        rw [← hn] at HR
        have hlx := hA.lx
        have g1 : ((x.toNat : Int) == 9) = false := by simp; omega
        have g2 : ((x.toNat : Int) == 13) = false := by simp; omega
        have g3 : ((x.toNat : Int) == 32) = false := by simp; omega
        have g4 : ((x.toNat : Int) == 59) = true := by simp; omega
        clear h1 hs1 hA hb h59 hn
        go_wp2_with (first
          | (go_at_call 29; refine HBA.out.mono ?_; rintro e w2 ⟨rfl, rfl⟩)
          | (go_at_call 30; refine (HR.out _ hlx).mono ?_; rintro e w2 ⟨rfl, rfl⟩))
        go_roundg (gk - n)
        case measure => have := HX.out.gh; omega
        case rel => exact ⟨a + n, line, begun, T0, HN.out⟩
    | fault e =>
      rw [h1] at hX
      obtain ⟨hb, h59, he, htk⟩ := hX
      have HT := hid (fun W (hW : Lx W (w.heap.size + 1) s a line begun) => (token_calls hW (by omega) L hL hax).mono (fun e' w' (hp : TokPost W a (L.drop a) e' w') => by unfold TokPost at hp; rw [htk, if_pos he] at hp; exact hp))
      have hlx := hA.lx
      have g1 : ((x.toNat : Int) == 9) = false := by simp [isBlank] at hb; simp; omega
      have g2 : ((x.toNat : Int) == 13) = false := by simp [isBlank] at hb; simp; omega
      have g3 : ((x.toNat : Int) == 32) = false := by simp [isBlank] at hb; simp; omega
      have g4 : ((x.toNat : Int) == 59) = false := by simp; omega
      have g5 : ((e : Int) != 0) = true := by simp; omega
      have g6 : ((e : Int) == 0) = false := by simp; omega
      have HE := hid h1
      clear hA hb h59 htk he h1
      go_wp2_with (first
        | (go_at_call 29; refine HBA.out.mono ?_; rintro e w2 ⟨rfl, rfl⟩)
        | (go_at_call 32; refine (HT.out _ hlx).mono ?_; rintro e w2 ⟨rfl, hc2⟩; unfold zeroTok; have hrs := fun o => blk_alloc_old (hc2.heap HX.out.res (by simp)) o; have z0 := fun o => (blk_cell (hrs o) 0).trans rfl; have z1 := fun o => (blk_cell (hrs o) 1).trans rfl; have z2 := fun o => (blk_cell (hrs o) 2).trans rfl; have zf := fun o i => blk_free (hrs o) i; clear hrs; have x1' := fun o => (hlx.keep (hc2.alloc o) (by simp)).c1; have x2' := fun o => (hlx.keep (hc2.alloc o) (by simp)).c2; have x3' := fun o => (hlx.keep (hc2.alloc o) (by simp)).c3; have hz2 : w.heap.size + 2 ≤ w2.heap.size := (by have := HX.out.two; have := hc2.size; omega); have n1 : w.heap.size + 1 ≠ w2.heap.size := (by omega); have n2 : w2.heap.size ≠ w.heap.size + 1 := (by omega)))
      go_region
      go_wp2
      rw [Exit.noGoto_ret]
      have hc2n : Chg [w.heap.size] wr w2 := hc2.nil
      exact bodyPost_ret (v := .agg #[.int .i64 e, .int .i64 line, .int .i64 ((a : Int) - (begun : Int) + 1)]) (by simp [results, Try.results23, go_sem, z0, z1, z2]) rfl ⟨⟨_, rfl⟩, .inl (by rw [HX.out.fault HE.out]; exact hJ [w.heap.size] _ _ _ HX.out.j (by repeat (first | with_reducible exact Chg.refl _ _ | with_reducible exact hc2n | with_reducible refine Chg.setCell ?_ (by first | exact .inr (Nat.le_refl _) | (refine .inr ?_; first | omega | (simp; done) | (simp; omega)) | (refine .inl ?_; simp; done)) _ | with_reducible refine Chg.drewN ?_ _ | with_reducible refine Chg.drew ?_ | with_reducible refine Chg.alloc ?_ _)) (fun b hb => by simp at hb; omega))⟩
    | tok k t v n =>
      rw [h1] at hX
      obtain ⟨hb, h59, htk⟩ := hX
      have HT := hid (fun W (hW : Lx W (w.heap.size + 1) s a line begun) => (token_calls hW (by omega) L hL hax).mono (fun e' w' (hp : TokPost W a (L.drop a) e' w') => by unfold TokPost at hp; rw [htk, if_neg (by simp)] at hp; exact hp))
      have hlx := hA.lx
      have hkn := act1_tok h1
      have g1 : ((x.toNat : Int) == 9) = false := by simp [isBlank] at hb; simp; omega
      have g2 : ((x.toNat : Int) == 13) = false := by simp [isBlank] at hb; simp; omega
      have g3 : ((x.toNat : Int) == 32) = false := by simp [isBlank] at hb; simp; omega
      have g4 : ((x.toNat : Int) == 59) = false := by simp; omega
      have HE := hid h1
      have HK := hid hkn
      clear hA hb h59 htk h1 hkn
      have hk3 : (((k : Int) == 7) = true ∧ k = 7) ∨ (((k : Int) == 7) = false ∧ ((k : Int) == 6) = true ∧ k ≠ 7 ∧ k = 6) ∨ (((k : Int) == 7) = false ∧ ((k : Int) == 6) = false ∧ k ≠ 7 ∧ k ≠ 6) := by
        simp only [beq_iff_eq, beq_eq_false_iff_ne]
        omega
      go_wp2_with (first
          | (go_at_call 29; refine HBA.out.mono ?_; rintro e w2 ⟨rfl, rfl⟩)
          | (go_at_call 32; refine (HT.out _ hlx).mono ?_; rintro e w2 ⟨rfl, hc2⟩; unfold tokV; have x1' := fun o => (hlx.keep (hc2.alloc o) (by simp)).c1; have x2' := fun o => (hlx.keep (hc2.alloc o) (by simp)).c2; have x3' := fun o => (hlx.keep (hc2.alloc o) (by simp)).c3; have hz2 : w.heap.size + 2 ≤ w2.heap.size := (by have := HX.out.two; have := hc2.size; omega); have n1 : w.heap.size + 1 ≠ w2.heap.size := (by omega); have n2 : w2.heap.size ≠ w.heap.size + 1 := (by omega)))
      go_region
      go_upto_region 15 with fail
      obtain ⟨wy, hwy⟩ : ∃ wy, (w2.alloc (.cells #[.int .i64 k, .string ⟨t.toArray⟩, .int .i64 v, .int .i64 line, .int .i64 ((a : Int) - (begun : Int) + 1)] 38)).drew = wy := ⟨_, rfl⟩
      rw [hwy]
      have hcy : Chg [] w2 wy := by rw [← hwy]; exact ((Chg.refl [] w2).alloc _).drew
      have hby : wy.heap[w2.heap.size]? = some (.cells #[.int .i64 k, .string ⟨t.toArray⟩, .int .i64 v, .int .i64 line, .int .i64 ((a : Int) - (begun : Int) + 1)] 38 (0, 0)) := by rw [← hwy]; exact heap_alloc_new w2 _
      clear hwy x0 x1 x2 x3 xf x1' x2' x3'
      have hcr : Chg [] wr wy := hc2.trans' hcy
      have hag : (tokC (⟨k, t, v, line, a - begun + 1⟩ : Tok)).toArray = #[.int .i64 k, .string ⟨t.toArray⟩, .int .i64 v, .int .i64 line, .int .i64 ((a : Int) - (begun : Int) + 1)] := by
        simp [tokC]; omega
      obtain ⟨fn, tmps, assign, body, hy, hR⟩ := hY [] T0 (⟨k, t, v, line, a - begun + 1⟩ : Tok) wr wy (HX.out.prefix HE.out) HX.out.j HX.out.two hcr (Mid.nil _ _)
      rw [hag] at hy
      have y0 := (blk_cell hby 0).trans rfl
      have y1 := (blk_cell hby 1).trans rfl
      have y2 := (blk_cell hby 2).trans rfl
      have y3 := (blk_cell hby 3).trans rfl
      have y4 := (blk_cell hby 4).trans rfl
      have HB := hid hby
      have HR := hid hR
      have HCR := hid hcr
      have HCY := hid hcy
      have hc2s := hc2.size
      clear hag hR hby hcr hcy hc2 hY
      refine wpIn_wide (n := 0).1 ?_
      gi_wp2
      refine ⟨rfl, HR.out.mono ?_⟩
      rintro e W3 ⟨⟨S, hcS, hS⟩, hend⟩
      have h2b := HX.out.two
      have hzr := HCR.out.size
      have hzw := (hc2s : wr.heap.size ≤ w2.heap.size)
      have hn0 : w.heap.size ∉ S := fun h => by have := hS _ h; omega
      have hn1 : w.heap.size + 1 ∉ S := fun h => by have := hS _ h; omega
      have hn2 : w2.heap.size ∉ S := fun h => by have := hS _ h; omega
      have hres3 := hcS.heap (HCR.out.heap HX.out.res (by simp)) hn0
      have hlx3 := (HX.out.lx.keep HCR.out (by simp)).keep hcS hn1
      have yb := hcS.heap HB.out hn2
      clear y0 y1 y2 y3 y4
      have y0 := (blk_cell yb 0).trans rfl
      have z0 := (blk_cell hres3 0).trans rfl
      have z1 := (blk_cell hres3 1).trans rfl
      have z2 := (blk_cell hres3 2).trans rfl
      have zf := fun i => blk_free hres3 i
      have x1 := hlx3.c1
      have x2 := hlx3.c2
      have x3 := hlx3.c3
      have xf := hlx3.fr
      have HLX := hid hlx3
      have HRS := hid hres3
      have hcw : Chg [w.heap.size] W3 (((W3.setCell ⟨w.heap.size, 0, none⟩ (.int .i64 0)).setCell ⟨w.heap.size, 1, none⟩ (.int .i64 0)).setCell ⟨w.heap.size, 2, none⟩ (.int .i64 0)) := (by repeat (first | with_reducible exact Chg.refl _ _ | with_reducible exact Chg.refl _ _ | with_reducible refine Chg.setCell ?_ (by first | exact .inr (Nat.le_refl _) | (refine .inr ?_; first | omega | (simp; done) | (simp; omega)) | (refine .inl ?_; simp; done)) _ | with_reducible refine Chg.drewN ?_ _ | with_reducible refine Chg.drew ?_ | with_reducible refine Chg.alloc ?_ _))
      have HCW := hid hcw
      clear hlx3 hres3 yb hcS hcw HB hn0 hn1 hn2
      rcases hend with ⟨rfl, hJ3⟩ | ⟨rfl, hJx3⟩
      · have HJ3 := hid hJ3
        clear hJ3
        rcases hk3 with ⟨q1, q2⟩ | ⟨q1, q2, q3, q4⟩ | ⟨q1, q2, q3, q4⟩
        · have HQ := hid q2
          clear q2
          gi_wp2
          go_wp2
          rw [Exit.noGoto_ret]
          obtain rfl : k = 7 := HQ.out
          exact bodyPost_ret (v := .agg #[.int .i64 0, .int .i64 0, .int .i64 0]) (by simp [results, Try.results23, go_sem, z0, z1, z2]) rfl ⟨⟨_, rfl⟩, .inl (by rw [HX.out.stop HE.out]; exact hJ [w.heap.size] _ _ _ HJ3.out HCW.out (fun b hb => by simp at hb; omega))⟩
        · have HQ := hid q4
          have HQ7 := hid q3
          clear q3 q4
          have hgk := HX.out.gh
          have hs1 := HLX.out.set1 (a + n)
          have hs2 := hs1.1.set23 (line + 1) (a + n)
          have hs12 := hs1.2.trans' hs2.2
          have HN := hid (HX.out.tok HLN.out HE.out HQ7.out (.inl ⟨HQ.out, rfl, rfl⟩) hs2.1 (hJ [w.heap.size + 1] _ _ _ HJ3.out hs12 (fun b hb => by simp at hb; omega)) (hs12.heap HRS.out (by simp)))
          have hn1 : 1 ≤ n := by rcases HK.out with ⟨_, h3, _⟩ | h3; exact absurd h3 HQ7.out; exact h3.2.2.2.1
          have hn2 : n ≤ s.size - a := by rcases HK.out with ⟨_, h3, _⟩ | h3; exact absurd h3 HQ7.out; have := h3.2.2.2.2; rw [List.length_drop, HLN.out] at this; exact this
          clear hs1 hs12 hs2 HT HK
          gi_wp2
          go_wp2
          go_roundg (gk - n)
          case measure => omega
          case rel => exact ⟨a + n, line + 1, a + n, _, HN.out⟩
        · have HQ := hid q4
          have HQ7 := hid q3
          clear q3 q4
          have hgk := HX.out.gh
          have hs1 := HLX.out.set1 (a + n)
          have hs12 := hs1.2
          have HN := hid (HX.out.tok HLN.out HE.out HQ7.out (.inr ⟨HQ.out, rfl, rfl⟩) hs1.1 (hJ [w.heap.size + 1] _ _ _ HJ3.out hs12 (fun b hb => by simp at hb; omega)) (hs12.heap HRS.out (by simp)))
          have hn1 : 1 ≤ n := by rcases HK.out with ⟨_, h3, _⟩ | h3; exact absurd h3 HQ7.out; exact h3.2.2.2.1
          have hn2 : n ≤ s.size - a := by rcases HK.out with ⟨_, h3, _⟩ | h3; exact absurd h3 HQ7.out; have := h3.2.2.2.2; rw [List.length_drop, HLN.out] at this; exact this
          clear hs1 hs12  HT HK
          gi_wp2
          go_wp2
          go_roundg (gk - n)
          case measure => omega
          case rel => exact ⟨a + n, line, begun, _, HN.out⟩
      · have HJ3 := hid hJx3
        clear hJx3
        gi_wp2
        go_wp2
        rw [Exit.noGoto_ret]
        exact bodyPost_ret (v := .agg #[.int .i64 0, .int .i64 0, .int .i64 0]) (by simp [results, Try.results23, go_sem, z0, z1, z2]) rfl ⟨⟨_, rfl⟩, .inr ⟨_, HX.out.prefix HE.out, hJx [w.heap.size] _ _ _ HJ3.out HCW.out (fun b hb => by simp at hb; omega)⟩⟩
end
end Go.Proofs.Ytppijmpdoejdmaa
