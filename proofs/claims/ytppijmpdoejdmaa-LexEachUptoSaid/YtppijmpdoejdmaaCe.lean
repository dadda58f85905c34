/- Walks of the lexer's reference: all tokens up to the first place at which none can be taken. -/
import Derived.Test.YtppijmpdoejdmaaCd
import Derived.Deep.LoopGhost
import Derived.WalkMore
import Derived.Outline
namespace Go.Proofs.Ytppijmpdoejdmaa
open Go.RowKit Go.AB
set_option linter.unusedSimpArgs false
set_option linter.unusedVariables false
set_option linter.unusedSectionVars false

/-- Where the reference's loop over the source stands. -/
structure PAt (w : World) (s : ByteArray) (L : List UInt8) (gk : Nat) (wr : World) (a line begun : Nat) (T0 : List Tok) (r : Option Nat) (ao : Option Addr) (cap : Nat) : Prop where
  gh : gk + a = s.size + 1
  le : a ≤ s.size
  be : begun ≤ a
  ln : line ≤ a + 1
  row : Row wr 38 5 (.slice ao T0.length cap) r T0.length (T0.flatMap tokC)
  eq : scanD L 1 1 = (T0 ++ (scanD (L.drop a) line (a - begun + 1)).1, (scanD (L.drop a) line (a - begun + 1)).2)
  chg : Chg [] w wr
  fr : ∀ g, r = some g → w.heap.size + 1 ≤ g
  res : wr.heap[w.heap.size]? = some (.cells #[.int .i64 0, .int .i64 0, .int .i64 0] 28 (0, 0))

section
variable {w wr w2 : World} {s : ByteArray} {L : List UInt8} {gk a line begun : Nat} {T0 : List Tok} {r : Option Nat} {ao : Option Addr} {cap : Nat}
theorem PAt.len (h : PAt w s L gk wr a line begun T0 r ao cap) (hL : L.length = s.size) : T0.length ≤ s.size + 1 := by
  have h1 := scanD_len L 1 1
  rw [h.eq] at h1
  simp only [List.length_append] at h1
  omega
/-- Blanks and remarks are passed. -/
theorem PAt.skip (h : PAt w s L gk wr a line begun T0 r ao cap) {k : Nat} (hk : Skip L a k) (h1 : a ≤ k) (h2 : k ≤ s.size) : PAt w s L (gk - (k - a)) wr k line begun T0 r ao cap := by
  have hg := h.gh
  have hbe := h.be
  have hln := h.ln
  refine ⟨by omega, h2, by omega, by omega, h.row, ?_, h.chg, h.fr, h.res⟩
  rw [h.eq, hk.1, show a - begun + 1 + (k - a) = k - begun + 1 from by omega]
theorem PAt.tok (h : PAt w s L gk wr a line begun T0 r ao cap) (hL : L.length = s.size) {k : Nat} {t : List UInt8} {v : Int} {n : Nat} (h1 : act1 (L.drop a) = .tok k t v n) (hk : k ≠ 7) {line' begun' : Nat} (hlb : (k = 6 ∧ line' = line + 1 ∧ begun' = a + n) ∨ (k ≠ 6 ∧ line' = line ∧ begun' = begun))
    {r' : Option Nat} {ao' : Option Addr} {cap' : Nat} {xs : List Value} (hrow : Row w2 38 5 (.slice ao' (T0.length + 1) cap') r' (T0.length + 1) xs) (hxs : xs = (T0 ++ [(⟨k, t, v, line, a - begun + 1⟩ : Tok)]).flatMap tokC) (hch : Chg r.toList wr w2) (hf : Fresh wr r r') :
    PAt w s L (gk - n) w2 (a + n) line' begun' (T0 ++ [(⟨k, t, v, line, a - begun + 1⟩ : Tok)]) r' ao' cap' ∧ 1 ≤ n ∧ n ≤ gk := by
  have h2 : L.drop a ≠ [] ∧ 1 ≤ k ∧ k ≤ 6 ∧ 1 ≤ n ∧ n ≤ (L.drop a).length := by
    rcases act1_tok h1 with ⟨_, h3, _⟩ | h3
    · exact absurd h3 hk
    · exact h3
  have hn2 := h2.2.2.2.2
  rw [List.length_drop] at hn2
  have hg := h.gh
  have hln := h.ln
  have hbe := h.be
  have hn1 := h2.2.2.2.1
  have hsz := h.chg.size
  have hrs := blk_lt h.res
  refine ⟨⟨by omega, by omega, by rcases hlb with ⟨_, _, h3⟩ | ⟨_, _, h3⟩ <;> omega, by rcases hlb with ⟨_, h3, _⟩ | ⟨_, h3, _⟩ <;> omega, by rw [List.length_append, ← hxs]; exact hrow, ?_, h.chg.trans hch (fun x hx => .inr (by have := h.fr x (by simpa using hx); omega)), fun g hg => by rcases hf g hg with h3 | h3; exact h.fr g h3; omega, hch.heap h.res (by
    intro hm
    have := h.fr _ (by simpa using hm); omega)⟩, hn1, by omega⟩
  have e := h.eq
  rw [scanD_eq (L.drop a), h1] at e
  simp only [List.drop_drop, if_neg hk] at e
  rcases hlb with ⟨h3, rfl, rfl⟩ | ⟨h3, rfl, rfl⟩
  · rw [if_pos h3] at e
    rw [e]
    simp
  · rw [if_neg h3] at e
    rw [e, show a + n - begun' + 1 = a - begun' + 1 + n from by omega]
    simp
theorem newT_any {w w' : World} {p : List Tok × (Nat × Nat × Nat)} {ts : List Tok} {n cap : Nat} {r : Option Nat} {ao : Option Addr} (hts : ts = p.1) (hn : n = ts.length) {xs : List Value} (hrow : Row w' 38 5 (.slice ao n cap) r n xs) (hxs : xs = ts.flatMap tokC) (hf : Fresh w none r) (hc : Chg [] w w') {X Y Z : Int} (hX : X = (p.2.1 : Nat)) (hY : Y = (p.2.2.1 : Nat)) (hZ : Z = (p.2.2.2 : Nat)) :
    NewT w p (.returned (.tuple #[.slice ao n cap, .agg #[.int .i64 X, .int .i64 Y, .int .i64 Z]])) w' := by
  subst hn hxs hX hY hZ
  exact ⟨ts, ao, cap, r, rfl, hrow, hf, hc, hid hts⟩
theorem PAt.fault (h : PAt w s L gk wr a line begun T0 r ao cap) {e : Nat} (h1 : act1 (L.drop a) = .fault e) (hch : Chg [w.heap.size] wr w2) {X Y Z : Int} (hX : X = (e : Int)) (hY : Y = (line : Int)) (hZ : Z = (a : Int) - (begun : Int) + 1) :
    NewT w (scanD L 1 1) (.returned (.tuple #[.slice ao T0.length cap, .agg #[.int .i64 X, .int .i64 Y, .int .i64 Z]])) w2 := by
  have e1 := h.eq
  rw [scanD_eq (L.drop a), h1] at e1
  simp only [List.append_nil] at e1
  have hbe := h.be
  refine newT_any (ts := T0) (by rw [e1]) rfl (h.row.keep hch (fun g hg hm => by have := h.fr g hg; simp at hm; omega)) rfl (fun g hg => .inr (by have := h.fr g hg; omega)) (h.chg.trans hch (fun x hx => .inr (by simp at hx; omega))) (by rw [e1]; exact hX) (by rw [e1]; exact hY) (by rw [e1, hZ]; simp only []; omega)
theorem PAt.stop (h : PAt w s L gk wr a line begun T0 r ao cap) {kd : Nat} (hkd : kd = 7) {t : List UInt8} {v : Int} {n : Nat} (h1 : act1 (L.drop a) = .tok kd t v n) {r' : Option Nat} {ao' : Option Addr} {cap' : Nat} {xs : List Value} (hrow : Row w2 38 5 (.slice ao' (T0.length + 1) cap') r' (T0.length + 1) xs) (hxs : xs = (T0 ++ [(⟨kd, t, v, line, a - begun + 1⟩ : Tok)]).flatMap tokC) (hch : Chg (w.heap.size :: r.toList) wr w2) (hf : Fresh wr r r') :
    NewT w (scanD L 1 1) (.returned (.tuple #[.slice ao' (T0.length + 1) cap', .agg #[.int .i64 0, .int .i64 0, .int .i64 0]])) w2 := by
  subst hkd
  have e1 := h.eq
  have h2 : t = [] ∧ v = 0 := by
    rcases act1_tok h1 with ⟨_, _, h3, h4, _⟩ | ⟨_, _, h3, _⟩
    · exact ⟨h3, h4⟩
    · omega
  obtain ⟨rfl, rfl⟩ := h2
  rw [scanD_eq (L.drop a), h1] at e1
  simp only [if_true] at e1
  have hsz := h.chg.size
  refine newT_any (ts := T0 ++ [⟨7, [], 0, line, a - begun + 1⟩]) (by rw [e1]) (by simp) hrow hxs (fun g hg => .inr (by rcases hf g hg with h3 | h3; have := h.fr g h3; omega; omega)) (h.chg.trans hch (fun x hx => by
    rcases List.mem_cons.1 hx with h3 | h3
    · exact .inr (by omega)
    · exact .inr (by have := h.fr x (by simpa using h3); omega))) (by rw [e1]; rfl) (by rw [e1]; rfl) (by rw [e1]; rfl)
end

theorem tokAt_line {d t : List UInt8} {v : Int} {n : Nat} (h : tokAt d = (0, 6, t, v, n)) : n = 1 := by
  cases d with
  | nil => simp [tokAt] at h
  | cons c r =>
    simp only [tokAt] at h
    split at h
    · simp at h
    split at h
    · split at h <;> simp at h
    split at h
    · simp at h
    split at h
    · simp at h
    split at h
    · simp at h
    split at h
    · simp at h; exact h.2.2.symm
    · simp at h
section
variable {s : ByteArray} (hs : s.size ≤ 1048576) (L : List UInt8) (hL : Hid (s.data.toList = L))
include hs hL

set_option maxHeartbeats 4000000 in
set_option maxRecDepth 100000 in
theorem r_part_calls (w : World) : Calls Try.prog 18 #[.string s] w (NewT w (scanD L 1 1)) := by
  have HLN := hid (len_of hL)
  have hget : ∀ k (hk : k < s.size) (hk2 : k < L.length), s[k] = L[k] := fun k hk hk2 => by
    have := hL.out
    subst this
    rfl
  have HG := hid hget
  clear hget
  have hz : Chg [] w (w.alloc (.cells #[.int .i64 0, .int .i64 0, .int .i64 0] 28)) := (Chg.refl [] w).alloc _
  go_enter Try.func18, Try.ntmps18
  go_wp2_with fail
  go_loopg [4, 5, 6, 7] (s.size + 1) (fun gk vo va vl vb wr => ∃ a line begun T0 r ao cap, PAt w s L gk wr a line begun T0 r ao cap ∧ vo = .slice ao T0.length cap ∧ va = .int .i64 a ∧ vl = .int .i64 line ∧ vb = .int .i64 begun)
  case atStart => exact ⟨0, 1, 0, [], none, none, 0, ⟨by omega, by omega, by omega, by omega, Row.nil _ _ _, by simp, hz, (fun g hg => by cases hg), heap_alloc_new w _⟩, rfl, rfl, rfl, rfl⟩
  case round =>
    obtain ⟨a, line, begun, T0, r, ao, cap, hA, rfl, rfl, rfl, rfl⟩ := hrel
    have hle := hA.le
    have HX := hid hA
    have HK := hid (r_skipped_calls wr (by omega) L hL a hle)
    clear hA
    go_wp2_with (go_at_call 25; refine HK.out.mono ?_; rintro e w2 ⟨k, rfl, hk1, hk2, HS, HP, rfl⟩)
    obtain ⟨wo, rfl⟩ : ∃ wo : World, wo = wr := ⟨_, rfl⟩
    go_loop [6, 7, 9] (fun l b i => l = .int .i64 line ∧ b = .int .i64 begun ∧ ∃ j : Nat, a ≤ j ∧ j ≤ k ∧ i = .int .i64 j) (fun _ _ i => k - (intOf i).toNat)
    case atStart => exact ⟨rfl, rfl, a, Nat.le_refl _, hk1, rfl⟩
    case round =>
      obtain ⟨rfl, rfl, j, hj1, hj2, rfl⟩ := hrel
      by_cases hlt : j < k
      · have hjs : j < s.size := by omega
        have hjL : j < L.length := by rw [HLN.out]; exact hjs
        have h10 : s[j].toNat ≠ 10 := by rw [HG.out j hjs hjL]; exact HS.out.2 j hjL hj1 hlt
        have g1 : ((s[j].toNat : Int) == 10) = false := by simp; omega
        clear h10
        go_wp2
        go_round
        case rel => exact ⟨rfl, rfl, j + 1, by omega, by omega, by go_num⟩
        case measure => simp [intOf]; omega
      · have hA := HX.out.skip HS.out hk1 hk2
        have HA := hid hA
        have hrow := hA.row
        have hres := hA.res
        have hsz := hA.chg.size
        have hrs := blk_lt hA.res
        have hlen := hA.len HLN.out
        have hbe := hA.be
        have hln := hA.ln
        have hX := act1_x hL hk2
        have hTk := fun W => r_token_calls (by omega) L hL W hk2
        clear hA hj1 HK
        cases h1 : act1 (L.drop k) with
        | pass n => exact absurd h1 (HP.out n)
        | fault e =>
          rw [h1] at hX
          obtain ⟨_, _, he, htk⟩ := hX
          have HT := hid (fun W => (hTk W).mono (fun e' w' (hp : RTok W (L.drop k) e' w') => by unfold RTok at hp; rw [htk, if_pos he] at hp; exact hp))
          have g5 : ((e : Int) != 0) = true := by simp; omega
          have g6 : ((e : Int) == 0) = false := by simp; omega
          have HE := hid h1
          have HRS := hid hres
          have HRW := hid hrow
          clear htk he h1 hTk hres hrow HP HX HS
          go_wp2_with (go_at_call 26; refine (HT.out _).mono ?_; rintro e w2 ⟨rfl, hc2⟩; unfold zeroTok; have hrs2 := hc2.heap HRS.out (by simp); have z0 := fun o => (blk_cell (blk_alloc_old hrs2 o) 0).trans rfl; have z1 := fun o => (blk_cell (blk_alloc_old hrs2 o) 1).trans rfl; have z2 := fun o => (blk_cell (blk_alloc_old hrs2 o) 2).trans rfl; have zf := fun o i => blk_free (blk_alloc_old hrs2 o) i)
          have hc2n : Chg [w.heap.size] wo w2 := hc2.nil
          go_region
          go_wp2
          exact bodyPost_ret (v := .tuple #[.slice ao T0.length cap, .agg #[.int .i64 e, .int .i64 line, .int .i64 ((k : Int) - (begun : Int) + 1)]]) (by simp [results, Try.results18, go_sem, z0, z1, z2]) rfl (HA.out.fault HE.out (by repeat (first | with_reducible exact Chg.refl _ _ | with_reducible exact hc2n | with_reducible refine Chg.setCell ?_ (by first | exact .inr (Nat.le_refl _) | (refine .inr ?_; first | omega | (simp; done) | (simp; omega)) | (refine .inl ?_; simp; done)) _ | with_reducible refine Chg.drewN ?_ _ | with_reducible refine Chg.drew ?_ | with_reducible refine Chg.alloc ?_ _)) rfl rfl rfl)
        | tok kd t v n =>
          rw [h1] at hX
          obtain ⟨_, _, htk⟩ := hX
          have HT := hid (fun W => (hTk W).mono (fun e' w' (hp : RTok W (L.drop k) e' w') => by unfold RTok at hp; rw [htk, if_neg (by simp)] at hp; exact hp))
          have HE := hid h1
          have HRS := hid hres
          have HRW := hid hrow
          have HTK := hid htk
          clear htk h1 hTk hres hrow HP HX HS
          have hk3 : (((kd : Int) == 7) = true ∧ kd = 7) ∨ (((kd : Int) == 7) = false ∧ ((kd : Int) == 6) = true ∧ kd ≠ 7 ∧ kd = 6) ∨ (((kd : Int) == 7) = false ∧ ((kd : Int) == 6) = false ∧ kd ≠ 7 ∧ kd ≠ 6) := by
            simp only [beq_iff_eq, beq_eq_false_iff_ne]
            omega
          have hxs : (T0.flatMap tokC ++ [.int .i64 kd, .string ⟨t.toArray⟩, .int .i64 v, .int .i64 line, .int .i64 ((k : Int) - (begun : Int) + 1)]) = (T0 ++ [(⟨kd, t, v, line, k - begun + 1⟩ : Tok)]).flatMap tokC := by
            simp [tokC]; omega
          have HXS := hid hxs
          clear hxs
          rcases hk3 with ⟨q1, q2⟩ | ⟨q1, q2, q3, q4⟩ | ⟨q1, q2, q3, q4⟩
          · have HQ := hid q2
            clear q2
            go_wp2_with (first
              | (go_at_call 26; refine (HT.out _).mono ?_; rintro e w2 ⟨rfl, hc2⟩; unfold tokV)
              | (at_builtin; refine halt (fun X hX => ?_)))
            rw [hX.out]; clear hX
            have hv := View.struct (k := 5) (w2.alloc (.cells #[.int .i64 kd, .string ⟨t.toArray⟩, .int .i64 v, .int .i64 line, .int .i64 ((k : Int) - (begun : Int) + 1)] 38)) [.int .i64 kd, .string ⟨t.toArray⟩, .int .i64 v, .int .i64 line, .int .i64 ((k : Int) - (begun : Int) + 1)] 38 rfl
            rw [show (w2.alloc (.cells #[.int .i64 kd, .string ⟨t.toArray⟩, .int .i64 v, .int .i64 line, .int .i64 ((k : Int) - (begun : Int) + 1)] 38)).heap.size = w2.heap.size + 1 from by simp] at hv
            have hc22 : Chg [] wo ((w2.alloc (.cells #[.int .i64 kd, .string ⟨t.toArray⟩, .int .i64 v, .int .i64 line, .int .i64 ((k : Int) - (begun : Int) + 1)] 38)).alloc (.cells #[.int .i64 kd, .string ⟨t.toArray⟩, .int .i64 v, .int .i64 line, .int .i64 ((k : Int) - (begun : Int) + 1)] 38)) := (hc2.alloc _).alloc _
            refine wpList_grew rfl _ _ 23 rfl elem_tok rfl (HRW.out.keep hc22 (by simp)) rfl hv (by simp [Value.oneCell']) (by unfold maxLen; omega) (by omega) (fun ao' cap' r' w3 hr3 hg3 => ?_)
            have hz2 := hc2.size
            have hnr : ∀ b', wo.heap.size ≤ b' ∨ b' = w.heap.size → b' ∉ r.toList := by
              intro b' hb' hm
              have h4 : r = some b' := by simpa using hm
              have := HA.out.fr b' h4
              have := HRW.out.lt b' h4
              omega
            have hg3c := hg3.chg
            have yt : w3.heap[w2.heap.size]? = some (.cells #[.int .i64 kd, .string ⟨t.toArray⟩, .int .i64 v, .int .i64 line, .int .i64 ((k : Int) - (begun : Int) + 1)] 38 (0, 0)) := hg3c.heap (blk_alloc_old (heap_alloc_new w2 _) _) (hnr _ (.inl hz2))
            have yk : w3.cell? ⟨w2.heap.size, 0, none⟩ = some (.int .i64 (kd : Nat)) := (blk_cell yt 0).trans rfl
            have hC3 : Chg r.toList wo w3 := hc22.nil.trans' hg3c
            have hF3 : Fresh wo r r' := hg3.fresh.mono hc22.size
            have hres3 : w3.heap[w.heap.size]? = some (.cells #[.int .i64 0, .int .i64 0, .int .i64 0] 28 (0, 0)) := hC3.heap HRS.out (hnr _ (.inr rfl))
            have z0 := (blk_cell hres3 0).trans rfl
            have z1 := (blk_cell hres3 1).trans rfl
            have z2 := (blk_cell hres3 2).trans rfl
            have zf := fun i => blk_free hres3 i
            have hC3' : Chg (w.heap.size :: r.toList) wo w3 := hC3.mono (fun x hx => .inl (List.mem_cons_of_mem _ hx))
            have HRR := hid (And.intro hr3 (And.intro hC3' hF3))
            clear hv hc22 hnr hg3c yt hC3 hF3 hr3 hg3 hC3' hres3
            go_wp2
            exact bodyPost_ret (v := .tuple #[.slice ao' (T0.length + 1) cap', .agg #[.int .i64 0, .int .i64 0, .int .i64 0]]) (by simp [results, Try.results18, go_sem, z0, z1, z2]) rfl (by
              have hX := HRR.out
              have hset := (((Chg.refl [w.heap.size] w3).setCell (p := ⟨w.heap.size, 0, none⟩) (.inl (by simp)) (.int .i64 0)).setCell (p := ⟨w.heap.size, 1, none⟩) (.inl (by simp)) (.int .i64 0)).setCell (p := ⟨w.heap.size, 2, none⟩) (.inl (by simp)) (.int .i64 0)
              exact HA.out.stop HQ.out HE.out (hX.1.keep hset (fun g hg hm => by rcases hX.2.2 g hg with h3 | h3; have := HA.out.fr g h3; simp at hm; omega; simp at hm; omega)) HXS.out (hX.2.1.trans hset (fun x hx => .inl (by simp at hx; simp [hx]))) hX.2.2)
          · have HQ := hid q4
            have HQ7 := hid q3
            clear q3 q4
            go_wp2_with (first
              | (go_at_call 26; refine (HT.out _).mono ?_; rintro e w2 ⟨rfl, hc2⟩; unfold tokV)
              | (at_builtin; refine halt (fun X hX => ?_)))
            rw [hX.out]; clear hX
            have hv := View.struct (k := 5) (w2.alloc (.cells #[.int .i64 kd, .string ⟨t.toArray⟩, .int .i64 v, .int .i64 line, .int .i64 ((k : Int) - (begun : Int) + 1)] 38)) [.int .i64 kd, .string ⟨t.toArray⟩, .int .i64 v, .int .i64 line, .int .i64 ((k : Int) - (begun : Int) + 1)] 38 rfl
            rw [show (w2.alloc (.cells #[.int .i64 kd, .string ⟨t.toArray⟩, .int .i64 v, .int .i64 line, .int .i64 ((k : Int) - (begun : Int) + 1)] 38)).heap.size = w2.heap.size + 1 from by simp] at hv
            have hc22 : Chg [] wo ((w2.alloc (.cells #[.int .i64 kd, .string ⟨t.toArray⟩, .int .i64 v, .int .i64 line, .int .i64 ((k : Int) - (begun : Int) + 1)] 38)).alloc (.cells #[.int .i64 kd, .string ⟨t.toArray⟩, .int .i64 v, .int .i64 line, .int .i64 ((k : Int) - (begun : Int) + 1)] 38)) := (hc2.alloc _).alloc _
            refine wpList_grew rfl _ _ 23 rfl elem_tok rfl (HRW.out.keep hc22 (by simp)) rfl hv (by simp [Value.oneCell']) (by unfold maxLen; omega) (by omega) (fun ao' cap' r' w3 hr3 hg3 => ?_)
            have hz2 := hc2.size
            have hnr : ∀ b', wo.heap.size ≤ b' ∨ b' = w.heap.size → b' ∉ r.toList := by
              intro b' hb' hm
              have h4 : r = some b' := by simpa using hm
              have := HA.out.fr b' h4
              have := HRW.out.lt b' h4
              omega
            have hg3c := hg3.chg
            have yt : w3.heap[w2.heap.size]? = some (.cells #[.int .i64 kd, .string ⟨t.toArray⟩, .int .i64 v, .int .i64 line, .int .i64 ((k : Int) - (begun : Int) + 1)] 38 (0, 0)) := hg3c.heap (blk_alloc_old (heap_alloc_new w2 _) _) (hnr _ (.inl hz2))
            have yk : w3.cell? ⟨w2.heap.size, 0, none⟩ = some (.int .i64 (kd : Nat)) := (blk_cell yt 0).trans rfl
            have hC3 : Chg r.toList wo w3 := hc22.nil.trans' hg3c
            have hF3 : Fresh wo r r' := hg3.fresh.mono hc22.size
            have hn1 : n = 1 := by have := HTK.out; rw [HQ.out] at this; exact tokAt_line this
            have HN := hid (HA.out.tok HLN.out HE.out HQ7.out (.inl ⟨HQ.out, rfl, show k + 1 = k + n by rw [hn1]⟩) hr3 HXS.out hC3 hF3)
            have hnb : n ≤ 1 := by omega
            clear hn1
            clear hv hc22 hnr hg3c yt hC3 hF3 hr3 hg3
            go_wp2
            go_roundg (gk - (k - a) - n)
            case measure => have := HN.out.2; omega
            case rel => exact ⟨k + n, line + 1, k + 1, _, r', ao', cap', HN.out.1, by simp, by go_num, by go_num, by go_num⟩
          · have HQ := hid q4
            have HQ7 := hid q3
            clear q3 q4
            go_wp2_with (first
              | (go_at_call 26; refine (HT.out _).mono ?_; rintro e w2 ⟨rfl, hc2⟩; unfold tokV)
              | (at_builtin; refine halt (fun X hX => ?_)))
            rw [hX.out]; clear hX
            have hv := View.struct (k := 5) (w2.alloc (.cells #[.int .i64 kd, .string ⟨t.toArray⟩, .int .i64 v, .int .i64 line, .int .i64 ((k : Int) - (begun : Int) + 1)] 38)) [.int .i64 kd, .string ⟨t.toArray⟩, .int .i64 v, .int .i64 line, .int .i64 ((k : Int) - (begun : Int) + 1)] 38 rfl
            rw [show (w2.alloc (.cells #[.int .i64 kd, .string ⟨t.toArray⟩, .int .i64 v, .int .i64 line, .int .i64 ((k : Int) - (begun : Int) + 1)] 38)).heap.size = w2.heap.size + 1 from by simp] at hv
            have hc22 : Chg [] wo ((w2.alloc (.cells #[.int .i64 kd, .string ⟨t.toArray⟩, .int .i64 v, .int .i64 line, .int .i64 ((k : Int) - (begun : Int) + 1)] 38)).alloc (.cells #[.int .i64 kd, .string ⟨t.toArray⟩, .int .i64 v, .int .i64 line, .int .i64 ((k : Int) - (begun : Int) + 1)] 38)) := (hc2.alloc _).alloc _
            refine wpList_grew rfl _ _ 23 rfl elem_tok rfl (HRW.out.keep hc22 (by simp)) rfl hv (by simp [Value.oneCell']) (by unfold maxLen; omega) (by omega) (fun ao' cap' r' w3 hr3 hg3 => ?_)
            have hz2 := hc2.size
            have hnr : ∀ b', wo.heap.size ≤ b' ∨ b' = w.heap.size → b' ∉ r.toList := by
              intro b' hb' hm
              have h4 : r = some b' := by simpa using hm
              have := HA.out.fr b' h4
              have := HRW.out.lt b' h4
              omega
            have hg3c := hg3.chg
            have yt : w3.heap[w2.heap.size]? = some (.cells #[.int .i64 kd, .string ⟨t.toArray⟩, .int .i64 v, .int .i64 line, .int .i64 ((k : Int) - (begun : Int) + 1)] 38 (0, 0)) := hg3c.heap (blk_alloc_old (heap_alloc_new w2 _) _) (hnr _ (.inl hz2))
            have yk : w3.cell? ⟨w2.heap.size, 0, none⟩ = some (.int .i64 (kd : Nat)) := (blk_cell yt 0).trans rfl
            have hC3 : Chg r.toList wo w3 := hc22.nil.trans' hg3c
            have hF3 : Fresh wo r r' := hg3.fresh.mono hc22.size
            have HN := hid (HA.out.tok HLN.out HE.out HQ7.out (.inr ⟨HQ.out, rfl, rfl⟩) hr3 HXS.out hC3 hF3)
            have hnb : n ≤ 1048577 := by have := HN.out.2; have := HA.out.gh; omega
            clear hv hc22 hnr hg3c yt hC3 hF3 hr3 hg3
            go_wp2
            go_roundg (gk - (k - a) - n)
            case measure => have := HN.out.2; omega
            case rel => exact ⟨k + n, line, begun, _, r', ao', cap', HN.out.1, by simp, by go_num, rfl, rfl⟩
end
end Go.Proofs.Ytppijmpdoejdmaa
