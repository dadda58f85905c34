/- Walks of the lexer: the number that stands at a place. -/
import Derived.Test.YtmahcabidggmeaaGreatDoorAb
set_option linter.unusedVariables false
set_option linter.unusedSectionVars false
set_option linter.unusedSimpArgs false
namespace Go.Proofs.YtmahcabidggmeaaGreatDoor
open Go.RowKit Go.AB
set_option linter.unusedSimpArgs false
set_option linter.unusedVariables false

theorem head_of {L : List UInt8} {s : ByteArray} (hL : Hid (s.data.toList = L)) {a : Nat} (ha : a < s.size) : (L.drop a).head? = some s[a] := by rw [drop_cons_of hL ha]; rfl
theorem get_of {L : List UInt8} {s : ByteArray} (hL : Hid (s.data.toList = L)) (i : Nat) : L[i]? = if h : i < s.size then some s[i] else none := by
  have h := hL.out
  subst h
  split
  · rename_i h; rw [List.getElem?_eq_getElem (by rw [Array.length_toList]; exact h)]; rfl
  · rename_i h; rw [List.getElem?_eq_none (by rw [Array.length_toList]; exact Nat.le_of_not_lt h)]
theorem at_of {L : List UInt8} {s : ByteArray} (hL : Hid (s.data.toList = L)) (a n : Nat) : (L.drop a)[n]? = if h : a + n < s.size then some s[a + n] else none := by
  rw [List.getElem?_drop, get_of hL]
theorem wordly_of {L : List UInt8} {s : ByteArray} (hL : Hid (s.data.toList = L)) (a n : Nat) : wAt (L.drop a) n = isWordly (byteAtB s (a + n)) := by
  unfold wAt byteAtB
  rw [at_of hL]
  split
  · rename_i c hc; split at hc
    · rename_i h; rw [dif_pos h]; cases hc; rfl
    · cases hc
  · rename_i hc; split at hc
    · cases hc
    · rename_i h; rw [dif_neg h]; decide
theorem x_of {L : List UInt8} {s : ByteArray} (hL : Hid (s.data.toList = L)) (a n : Nat) : ((L.drop a)[n]? = some 120) ↔ ((byteAtB s (a + n)).toNat = 120) := by
  rw [at_of hL]
  unfold byteAtB
  split
  · simp [← UInt8.toNat_inj]
  · simp

def zeroTok : Value := .agg #[.int .i64 0, .string ⟨#[]⟩, .int .i64 0, .int .i64 0, .int .i64 0]
def tokV (k : Nat) (t : List UInt8) (v : Int) (line col : Nat) : Value := .agg #[.int .i64 k, .string ⟨t.toArray⟩, .int .i64 v, .int .i64 line, .int .i64 col]
def NumPost (w : World) (a : Nat) (d : List UInt8) (e : Ending) (w' : World) : Prop :=
  (match numTokAt d with
   | none => e = .returned (.tuple #[zeroTok, .int .i64 0, .int .i64 71])
   | some (v, n) => e = .returned (.tuple #[tokV 2 [] v 0 0, .int .i64 ((a + n : Nat) : Int), .int .i64 0])) ∧ Chg [] w w'
theorem numPost_no {w w' : World} {a : Nat} {d : List UInt8} (h : numTokAt d = none) (hc : Chg [] w w') : NumPost w a d (.returned (.tuple #[.agg #[.int .i64 0, .string ⟨#[]⟩, .int .i64 0, .int .i64 0, .int .i64 0], .int .i64 0, .int .i64 71])) w' := by
  unfold NumPost; rw [h]; exact ⟨rfl, hc⟩
theorem numPost_yes {w w' : World} {a : Nat} {d : List UInt8} {v : Int} {n : Nat} (h : numTokAt d = some (v, n)) (hc : Chg [] w w') {X Y : Int} (hX : X = v) (hY : Y = ((a + n : Nat) : Int)) : NumPost w a d (.returned (.tuple #[.agg #[.int .i64 2, .string ⟨#[]⟩, .int .i64 X, .int .i64 0, .int .i64 0], .int .i64 Y, .int .i64 0])) w' := by
  subst hX hY; unfold NumPost; rw [h]; exact ⟨rfl, hc⟩
/-- What reading the number answers, before it is asked what stands behind it. -/
def ReadPost (w : World) (a : Nat) (d : List UInt8) (e : Ending) (w' : World) : Prop :=
  (match numAt d with
   | none => ∃ X Y : Int, e = .returned (.tuple #[.int .i64 X, .int .i64 Y, .bool false])
   | some (v, n) => e = .returned (.tuple #[.int .i64 v, .int .i64 ((a + n : Nat) : Int), .bool true])) ∧ Drew w w'

section
variable {w : World} {b : Nat} {s : ByteArray} {a ln g : Nat} (h : Lx w b s a ln g) (hs : s.size ≤ 4294967296) (L : List UInt8) (hL : Hid (s.data.toList = L))
include h hs hL
theorem hex_reads (ha : a < s.size) (h0 : s[a].toNat = 48) (hx : (byteAtB s (a + 1)).toNat = 120) : Calls Tryz.prog 107 #[.pointer (some ⟨b, 0, none⟩)] w (ReadPost w a (L.drop a)) := by
  have ha2 : a + 2 ≤ s.size := by
    unfold byteAtB at hx
    split at hx
    · omega
    · simp at hx
  refine (hex_calls h hs L hL ha2).mono ?_
  rintro e w' ⟨rfl, hd⟩
  have hn : numAt (L.drop a) = if 1 ≤ runLen isHex (L.drop (a + 2)) ∧ runLen isHex (L.drop (a + 2)) ≤ 16 then some (asI64 (hexNat ((L.drop (a + 2)).take (runLen isHex (L.drop (a + 2))))), runLen isHex (L.drop (a + 2)) + 2) else none := by
    unfold numAt
    rw [if_pos ⟨by rw [head_of hL ha]; simp [← UInt8.toNat_inj, h0], (x_of hL a 1).2 hx⟩, List.drop_drop]
  refine ⟨?_, hd⟩
  rw [hn]
  by_cases hc : 1 ≤ runLen isHex (L.drop (a + 2)) ∧ runLen isHex (L.drop (a + 2)) ≤ 16
  · rw [if_pos hc]
    have hm : hexNat ((L.drop (a + 2)).take (runLen isHex (L.drop (a + 2)))) % 18446744073709551616 = hexNat ((L.drop (a + 2)).take (runLen isHex (L.drop (a + 2)))) :=
      Nat.mod_eq_of_lt (hexNat_lt _ (by rw [List.length_take]; omega))
    rw [hm, decide_eq_true hc, show a + 2 + runLen isHex (L.drop (a + 2)) = a + (runLen isHex (L.drop (a + 2)) + 2) from by omega]
  · rw [if_neg hc, decide_eq_false hc]
    exact ⟨_, _, rfl⟩
theorem dec_reads (ha : a < s.size) (h0 : ¬ (s[a].toNat = 48 ∧ (byteAtB s (a + 1)).toNat = 120)) : Calls Tryz.prog 106 #[.pointer (some ⟨b, 0, none⟩)] w (ReadPost w a (L.drop a)) := by
  have hno : ¬ ((L.drop a).head? = some 48 ∧ (L.drop a)[1]? = some 120) := by
    rw [head_of hL ha, x_of hL a 1]
    intro ⟨h1, h2⟩
    exact h0 ⟨by simpa [← UInt8.toNat_inj] using h1, h2⟩
  by_cases hneg : s[a].toNat = 45
  · refine (dec_calls_neg h hs L hL ha (by omega)).mono ?_
    rintro e w' ⟨hp, hd⟩
    have hn : numAt (L.drop a) = if decV (L.drop (a + 1)) ≤ 9223372036854775808 then some (-(decV (L.drop (a + 1)) : Int), runLen isDigit (L.drop (a + 1)) + 1) else none := by
      unfold numAt
      rw [if_neg hno, if_pos (by rw [head_of hL ha]; simp [← UInt8.toNat_inj, hneg]), List.drop_drop]
      rfl
    refine ⟨?_, hd⟩
    rw [hn]
    simp only [if_true] at hp
    split at hp
    · rename_i hc
      rw [if_pos hc, hp, show a + 1 + runLen isDigit (L.drop (a + 1)) = a + (runLen isDigit (L.drop (a + 1)) + 1) from by omega]
    · rename_i hc
      rw [if_neg hc]
      exact ⟨0, 0, hp⟩
  · refine (dec_calls_pos h hs L hL ha (by omega)).mono ?_
    rintro e w' ⟨hp, hd⟩
    have hn : numAt (L.drop a) = if decV (L.drop a) ≤ 9223372036854775807 then some ((decV (L.drop a) : Int), runLen isDigit (L.drop a)) else none := by
      unfold numAt
      rw [if_neg hno, if_neg (by rw [head_of hL ha]; simp [← UInt8.toNat_inj]; exact hneg)]
      rfl
    refine ⟨?_, hd⟩
    rw [hn]
    simp only [Bool.false_eq_true, if_false] at hp
    split at hp
    · rename_i hc
      rw [if_pos hc, hp]
    · rename_i hc
      rw [if_neg hc]
      exact ⟨0, 0, hp⟩
end

section
variable {w : World} {b : Nat} {s : ByteArray} {a ln g : Nat} (h : Lx w b s a ln g) (hs : s.size ≤ 4294967296) (L : List UInt8) (hL : Hid (s.data.toList = L))
include h hs hL
omit h hL in
theorem byteAt_quiet {W : World} (hW : Lx W b s a ln g) (i : Nat) (n : Nat) : Calls Tryz.prog 66 #[.pointer (some ⟨b, 0, none⟩), .int .i64 i] (W.drewN n) fun e w' => e = .returned (.int .u8 (byteAtB s i).toNat) ∧ ∃ m, w' = W.drewN m :=
  (byteAt_calls (hW.keep (Chg.of_drewN [] W n) (by simp)) hs i).mono fun e w' ⟨h1, h2⟩ => ⟨h1, n, h2.symm⟩
set_option maxHeartbeats 2000000 in
set_option maxRecDepth 100000 in
theorem number_hex (ha : a < s.size) (c1 : s[a].toNat = 48) (c2 : (byteAtB s (a + 1)).toNat = 120) : Calls Tryz.prog 94 #[.pointer (some ⟨b, 0, none⟩)] w (NumPost w a (L.drop a)) := by
  have hca := (Chg.refl [] w).alloc (.cells #[.int .i64 0, .string ⟨#[]⟩, .int .i64 0, .int .i64 0, .int .i64 0] 63)
  have hx := h.keep hca (by simp)
  have h0 := hx.c0
  have h1 := hx.c1
  have e1 : ((s[a].toNat : Int) == 48) = true := by simp; omega
  have hq := fun W (hW : Lx W b s a ln g) n => byteAt_quiet hs hW (a + 1) n
  have HQ := hid (hq _ hx)
  have e2 : (((byteAtB s (a + 1)).toNat : Int) == 120) = true := by simp; omega
  have hr := fun W (hW : Lx W b s a ln g) => hex_reads hW hs L hL ha c1 c2
  have HR := hid hr
  clear hr c1 c2 hq
  go_enter Tryz.func94, Tryz.ntmps94
  go_wp2
  go_quiet ((go_at_call 66; exact HQ.out _))
  rcases hN : numAt (L.drop a) with _ | ⟨v, n⟩
  · have hr := fun W (hW : Lx W b s a ln g) => (HR.out W hW).mono (fun e w' hp => by unfold ReadPost at hp; rw [hN] at hp; exact hp)
    have hno : numTokAt (L.drop a) = none := by unfold numTokAt; rw [hN]
    have HR2 := hid hr
    have HNO := hid hno
    clear hr hN hno HR
    go_wp2_with (go_at_call 107; refine (HR2.out _ (hx.keep (Chg.of_drewN [] _ _) (by simp))).mono ?_; rintro e w1 ⟨⟨X, Y, rfl⟩, hd1⟩; have hd1' := hd1; obtain ⟨n1, rfl⟩ := hd1)
    exact bodyPost_ret (v := .tuple #[.agg #[.int .i64 0, .string ⟨#[]⟩, .int .i64 0, .int .i64 0, .int .i64 0], .int .i64 0, .int .i64 71]) (by simp [results, Tryz.results94, go_sem]) rfl (numPost_no HNO.out ((((((hca.drewN _).setCell (p := ⟨w.heap.size, 0, none⟩) (.inr (Nat.le_refl _)) _).setCell (p := ⟨w.heap.size, 1, none⟩) (.inr (Nat.le_refl _)) _).setCell (p := ⟨w.heap.size, 2, none⟩) (.inr (Nat.le_refl _)) _).setCell (p := ⟨w.heap.size, 3, none⟩) (.inr (Nat.le_refl _)) _).setCell (p := ⟨w.heap.size, 4, none⟩) (.inr (Nat.le_refl _)) _))
  · have hr := fun W (hW : Lx W b s a ln g) => (HR.out W hW).mono (fun e w' hp => by unfold ReadPost at hp; rw [hN] at hp; exact hp)
    have HR2 := hid hr
    have hW := wordly_of hL a n
    have hwc := wordly_calls (byteAtB s (a + n))
    have hba := fun W (hW : Lx W b s a ln g) => byteAt_calls hW hs (a + n)
    rcases Bool.eq_false_or_eq_true (isWordly (byteAtB s (a + n))) with hw | hw
    · rw [hw] at hW hwc
      have hno : numTokAt (L.drop a) = none := by unfold numTokAt; rw [hN]; simp [hW]
      have HNO := hid hno
      have HWC := hid hwc
      have HBA := hid hba
      clear hr hN HR hW hwc hba hw hno
      go_wp2_with (first
        | (go_at_call 107; refine (HR2.out _ (hx.keep (Chg.of_drewN [] _ _) (by simp))).mono ?_; rintro e w1 ⟨rfl, hd1⟩; obtain ⟨n1, rfl⟩ := hd1)
        | (go_at_call 66; refine (HBA.out _ (hx.keep (Chg.of_drewN [] _ _) (by simp))).mono ?_; rintro e w2 ⟨rfl, rfl⟩)
        | (go_at_call 92; refine (HWC.out _).mono ?_; rintro e w2 ⟨rfl, rfl⟩))
      exact bodyPost_ret (v := .tuple #[.agg #[.int .i64 0, .string ⟨#[]⟩, .int .i64 0, .int .i64 0, .int .i64 0], .int .i64 0, .int .i64 71]) (by simp [results, Tryz.results94, go_sem]) rfl (numPost_no HNO.out ((((((hca.drewN _).setCell (p := ⟨w.heap.size, 0, none⟩) (.inr (Nat.le_refl _)) _).setCell (p := ⟨w.heap.size, 1, none⟩) (.inr (Nat.le_refl _)) _).setCell (p := ⟨w.heap.size, 2, none⟩) (.inr (Nat.le_refl _)) _).setCell (p := ⟨w.heap.size, 3, none⟩) (.inr (Nat.le_refl _)) _).setCell (p := ⟨w.heap.size, 4, none⟩) (.inr (Nat.le_refl _)) _))
    · rw [hw] at hW hwc
      have hyes : numTokAt (L.drop a) = some (v, n) := by unfold numTokAt; rw [hN]; simp [hW]
      have HY := hid hyes
      have HWC := hid hwc
      have HBA := hid hba
      clear hr hN HR hW hwc hba hw hyes
      go_wp2_with (first
        | (go_at_call 107; refine (HR2.out _ (hx.keep (Chg.of_drewN [] _ _) (by simp))).mono ?_; rintro e w1 ⟨rfl, hd1⟩; obtain ⟨n1, rfl⟩ := hd1)
        | (go_at_call 66; refine (HBA.out _ (hx.keep (Chg.of_drewN [] _ _) (by simp))).mono ?_; rintro e w2 ⟨rfl, rfl⟩)
        | (go_at_call 92; refine (HWC.out _).mono ?_; rintro e w2 ⟨rfl, rfl⟩))
      exact bodyPost_ret (v := .tuple #[.agg #[.int .i64 2, .string ⟨#[]⟩, .int .i64 v, .int .i64 0, .int .i64 0], .int .i64 ((a : Int) + (n : Int)), .int .i64 0]) (by simp [results, Tryz.results94, go_sem]) rfl (numPost_yes HY.out ((((((hca.drewN _).setCell (p := ⟨w.heap.size, 0, none⟩) (.inr (Nat.le_refl _)) _).setCell (p := ⟨w.heap.size, 1, none⟩) (.inr (Nat.le_refl _)) _).setCell (p := ⟨w.heap.size, 2, none⟩) (.inr (Nat.le_refl _)) _).setCell (p := ⟨w.heap.size, 3, none⟩) (.inr (Nat.le_refl _)) _).setCell (p := ⟨w.heap.size, 4, none⟩) (.inr (Nat.le_refl _)) _) rfl (by omega))
set_option maxHeartbeats 2000000 in
set_option maxRecDepth 100000 in
theorem number_dec0 (ha : a < s.size) (c1 : s[a].toNat = 48) (c2 : (byteAtB s (a + 1)).toNat ≠ 120) : Calls Tryz.prog 94 #[.pointer (some ⟨b, 0, none⟩)] w (NumPost w a (L.drop a)) := by
  have hca := (Chg.refl [] w).alloc (.cells #[.int .i64 0, .string ⟨#[]⟩, .int .i64 0, .int .i64 0, .int .i64 0] 63)
  have hx := h.keep hca (by simp)
  have h0 := hx.c0
  have h1 := hx.c1
  have e1 : ((s[a].toNat : Int) == 48) = true := by simp; omega
  have hq := fun W (hW : Lx W b s a ln g) n => byteAt_quiet hs hW (a + 1) n
  have HQ := hid (hq _ hx)
  have e2 : (((byteAtB s (a + 1)).toNat : Int) == 120) = false := by simp; omega
  have hr := fun W (hW : Lx W b s a ln g) => dec_reads hW hs L hL ha (fun h => c2 h.2)
  have HR := hid hr
  clear hr c1 c2 hq
  go_enter Tryz.func94, Tryz.ntmps94
  go_wp2
  go_quiet ((go_at_call 66; exact HQ.out _))
  rcases hN : numAt (L.drop a) with _ | ⟨v, n⟩
  · have hr := fun W (hW : Lx W b s a ln g) => (HR.out W hW).mono (fun e w' hp => by unfold ReadPost at hp; rw [hN] at hp; exact hp)
    have hno : numTokAt (L.drop a) = none := by unfold numTokAt; rw [hN]
    have HR2 := hid hr
    have HNO := hid hno
    clear hr hN hno HR
    go_wp2_with (go_at_call 106; refine (HR2.out _ (hx.keep (Chg.of_drewN [] _ _) (by simp))).mono ?_; rintro e w1 ⟨⟨X, Y, rfl⟩, hd1⟩; have hd1' := hd1; obtain ⟨n1, rfl⟩ := hd1)
    exact bodyPost_ret (v := .tuple #[.agg #[.int .i64 0, .string ⟨#[]⟩, .int .i64 0, .int .i64 0, .int .i64 0], .int .i64 0, .int .i64 71]) (by simp [results, Tryz.results94, go_sem]) rfl (numPost_no HNO.out ((((((hca.drewN _).setCell (p := ⟨w.heap.size, 0, none⟩) (.inr (Nat.le_refl _)) _).setCell (p := ⟨w.heap.size, 1, none⟩) (.inr (Nat.le_refl _)) _).setCell (p := ⟨w.heap.size, 2, none⟩) (.inr (Nat.le_refl _)) _).setCell (p := ⟨w.heap.size, 3, none⟩) (.inr (Nat.le_refl _)) _).setCell (p := ⟨w.heap.size, 4, none⟩) (.inr (Nat.le_refl _)) _))
  · have hr := fun W (hW : Lx W b s a ln g) => (HR.out W hW).mono (fun e w' hp => by unfold ReadPost at hp; rw [hN] at hp; exact hp)
    have HR2 := hid hr
    have hW := wordly_of hL a n
    have hwc := wordly_calls (byteAtB s (a + n))
    have hba := fun W (hW : Lx W b s a ln g) => byteAt_calls hW hs (a + n)
    rcases Bool.eq_false_or_eq_true (isWordly (byteAtB s (a + n))) with hw | hw
    · rw [hw] at hW hwc
      have hno : numTokAt (L.drop a) = none := by unfold numTokAt; rw [hN]; simp [hW]
      have HNO := hid hno
      have HWC := hid hwc
      have HBA := hid hba
      clear hr hN HR hW hwc hba hw hno
      go_wp2_with (first
        | (go_at_call 106; refine (HR2.out _ (hx.keep (Chg.of_drewN [] _ _) (by simp))).mono ?_; rintro e w1 ⟨rfl, hd1⟩; obtain ⟨n1, rfl⟩ := hd1)
        | (go_at_call 66; refine (HBA.out _ (hx.keep (Chg.of_drewN [] _ _) (by simp))).mono ?_; rintro e w2 ⟨rfl, rfl⟩)
        | (go_at_call 92; refine (HWC.out _).mono ?_; rintro e w2 ⟨rfl, rfl⟩))
      exact bodyPost_ret (v := .tuple #[.agg #[.int .i64 0, .string ⟨#[]⟩, .int .i64 0, .int .i64 0, .int .i64 0], .int .i64 0, .int .i64 71]) (by simp [results, Tryz.results94, go_sem]) rfl (numPost_no HNO.out ((((((hca.drewN _).setCell (p := ⟨w.heap.size, 0, none⟩) (.inr (Nat.le_refl _)) _).setCell (p := ⟨w.heap.size, 1, none⟩) (.inr (Nat.le_refl _)) _).setCell (p := ⟨w.heap.size, 2, none⟩) (.inr (Nat.le_refl _)) _).setCell (p := ⟨w.heap.size, 3, none⟩) (.inr (Nat.le_refl _)) _).setCell (p := ⟨w.heap.size, 4, none⟩) (.inr (Nat.le_refl _)) _))
    · rw [hw] at hW hwc
      have hyes : numTokAt (L.drop a) = some (v, n) := by unfold numTokAt; rw [hN]; simp [hW]
      have HY := hid hyes
      have HWC := hid hwc
      have HBA := hid hba
      clear hr hN HR hW hwc hba hw hyes
      go_wp2_with (first
        | (go_at_call 106; refine (HR2.out _ (hx.keep (Chg.of_drewN [] _ _) (by simp))).mono ?_; rintro e w1 ⟨rfl, hd1⟩; obtain ⟨n1, rfl⟩ := hd1)
        | (go_at_call 66; refine (HBA.out _ (hx.keep (Chg.of_drewN [] _ _) (by simp))).mono ?_; rintro e w2 ⟨rfl, rfl⟩)
        | (go_at_call 92; refine (HWC.out _).mono ?_; rintro e w2 ⟨rfl, rfl⟩))
      exact bodyPost_ret (v := .tuple #[.agg #[.int .i64 2, .string ⟨#[]⟩, .int .i64 v, .int .i64 0, .int .i64 0], .int .i64 ((a : Int) + (n : Int)), .int .i64 0]) (by simp [results, Tryz.results94, go_sem]) rfl (numPost_yes HY.out ((((((hca.drewN _).setCell (p := ⟨w.heap.size, 0, none⟩) (.inr (Nat.le_refl _)) _).setCell (p := ⟨w.heap.size, 1, none⟩) (.inr (Nat.le_refl _)) _).setCell (p := ⟨w.heap.size, 2, none⟩) (.inr (Nat.le_refl _)) _).setCell (p := ⟨w.heap.size, 3, none⟩) (.inr (Nat.le_refl _)) _).setCell (p := ⟨w.heap.size, 4, none⟩) (.inr (Nat.le_refl _)) _) rfl (by omega))
set_option maxHeartbeats 2000000 in
set_option maxRecDepth 100000 in
theorem number_dec (ha : a < s.size) (c1 : s[a].toNat ≠ 48) : Calls Tryz.prog 94 #[.pointer (some ⟨b, 0, none⟩)] w (NumPost w a (L.drop a)) := by
  have hca := (Chg.refl [] w).alloc (.cells #[.int .i64 0, .string ⟨#[]⟩, .int .i64 0, .int .i64 0, .int .i64 0] 63)
  have hx := h.keep hca (by simp)
  have h0 := hx.c0
  have h1 := hx.c1
  have e1 : ((s[a].toNat : Int) == 48) = false := by simp; omega
  have hr := fun W (hW : Lx W b s a ln g) => dec_reads hW hs L hL ha (by omega)
  have HR := hid hr
  clear hr c1
  go_enter Tryz.func94, Tryz.ntmps94
  go_wp2
  go_quiet (fail)
  rcases hN : numAt (L.drop a) with _ | ⟨v, n⟩
  · have hr := fun W (hW : Lx W b s a ln g) => (HR.out W hW).mono (fun e w' hp => by unfold ReadPost at hp; rw [hN] at hp; exact hp)
    have hno : numTokAt (L.drop a) = none := by unfold numTokAt; rw [hN]
    have HR2 := hid hr
    have HNO := hid hno
    clear hr hN hno HR
    go_wp2_with (go_at_call 106; refine (HR2.out _ (hx.keep (Chg.of_drewN [] _ _) (by simp))).mono ?_; rintro e w1 ⟨⟨X, Y, rfl⟩, hd1⟩; have hd1' := hd1; obtain ⟨n1, rfl⟩ := hd1)
    exact bodyPost_ret (v := .tuple #[.agg #[.int .i64 0, .string ⟨#[]⟩, .int .i64 0, .int .i64 0, .int .i64 0], .int .i64 0, .int .i64 71]) (by simp [results, Tryz.results94, go_sem]) rfl (numPost_no HNO.out ((((((hca.drewN _).setCell (p := ⟨w.heap.size, 0, none⟩) (.inr (Nat.le_refl _)) _).setCell (p := ⟨w.heap.size, 1, none⟩) (.inr (Nat.le_refl _)) _).setCell (p := ⟨w.heap.size, 2, none⟩) (.inr (Nat.le_refl _)) _).setCell (p := ⟨w.heap.size, 3, none⟩) (.inr (Nat.le_refl _)) _).setCell (p := ⟨w.heap.size, 4, none⟩) (.inr (Nat.le_refl _)) _))
  · have hr := fun W (hW : Lx W b s a ln g) => (HR.out W hW).mono (fun e w' hp => by unfold ReadPost at hp; rw [hN] at hp; exact hp)
    have HR2 := hid hr
    have hW := wordly_of hL a n
    have hwc := wordly_calls (byteAtB s (a + n))
    have hba := fun W (hW : Lx W b s a ln g) => byteAt_calls hW hs (a + n)
    rcases Bool.eq_false_or_eq_true (isWordly (byteAtB s (a + n))) with hw | hw
    · rw [hw] at hW hwc
      have hno : numTokAt (L.drop a) = none := by unfold numTokAt; rw [hN]; simp [hW]
      have HNO := hid hno
      have HWC := hid hwc
      have HBA := hid hba
      clear hr hN HR hW hwc hba hw hno
      go_wp2_with (first
        | (go_at_call 106; refine (HR2.out _ (hx.keep (Chg.of_drewN [] _ _) (by simp))).mono ?_; rintro e w1 ⟨rfl, hd1⟩; obtain ⟨n1, rfl⟩ := hd1)
        | (go_at_call 66; refine (HBA.out _ (hx.keep (Chg.of_drewN [] _ _) (by simp))).mono ?_; rintro e w2 ⟨rfl, rfl⟩)
        | (go_at_call 92; refine (HWC.out _).mono ?_; rintro e w2 ⟨rfl, rfl⟩))
      exact bodyPost_ret (v := .tuple #[.agg #[.int .i64 0, .string ⟨#[]⟩, .int .i64 0, .int .i64 0, .int .i64 0], .int .i64 0, .int .i64 71]) (by simp [results, Tryz.results94, go_sem]) rfl (numPost_no HNO.out ((((((hca.drewN _).setCell (p := ⟨w.heap.size, 0, none⟩) (.inr (Nat.le_refl _)) _).setCell (p := ⟨w.heap.size, 1, none⟩) (.inr (Nat.le_refl _)) _).setCell (p := ⟨w.heap.size, 2, none⟩) (.inr (Nat.le_refl _)) _).setCell (p := ⟨w.heap.size, 3, none⟩) (.inr (Nat.le_refl _)) _).setCell (p := ⟨w.heap.size, 4, none⟩) (.inr (Nat.le_refl _)) _))
    · rw [hw] at hW hwc
      have hyes : numTokAt (L.drop a) = some (v, n) := by unfold numTokAt; rw [hN]; simp [hW]
      have HY := hid hyes
      have HWC := hid hwc
      have HBA := hid hba
      clear hr hN HR hW hwc hba hw hyes
      go_wp2_with (first
        | (go_at_call 106; refine (HR2.out _ (hx.keep (Chg.of_drewN [] _ _) (by simp))).mono ?_; rintro e w1 ⟨rfl, hd1⟩; obtain ⟨n1, rfl⟩ := hd1)
        | (go_at_call 66; refine (HBA.out _ (hx.keep (Chg.of_drewN [] _ _) (by simp))).mono ?_; rintro e w2 ⟨rfl, rfl⟩)
        | (go_at_call 92; refine (HWC.out _).mono ?_; rintro e w2 ⟨rfl, rfl⟩))
      exact bodyPost_ret (v := .tuple #[.agg #[.int .i64 2, .string ⟨#[]⟩, .int .i64 v, .int .i64 0, .int .i64 0], .int .i64 ((a : Int) + (n : Int)), .int .i64 0]) (by simp [results, Tryz.results94, go_sem]) rfl (numPost_yes HY.out ((((((hca.drewN _).setCell (p := ⟨w.heap.size, 0, none⟩) (.inr (Nat.le_refl _)) _).setCell (p := ⟨w.heap.size, 1, none⟩) (.inr (Nat.le_refl _)) _).setCell (p := ⟨w.heap.size, 2, none⟩) (.inr (Nat.le_refl _)) _).setCell (p := ⟨w.heap.size, 3, none⟩) (.inr (Nat.le_refl _)) _).setCell (p := ⟨w.heap.size, 4, none⟩) (.inr (Nat.le_refl _)) _) rfl (by omega))
theorem number_calls (ha : a < s.size) : Calls Tryz.prog 94 #[.pointer (some ⟨b, 0, none⟩)] w (NumPost w a (L.drop a)) := by
  by_cases c1 : s[a].toNat = 48
  · by_cases c2 : (byteAtB s (a + 1)).toNat = 120
    · exact number_hex h hs L hL ha c1 c2
    · exact number_dec0 h hs L hL ha c1 c2
  · exact number_dec h hs L hL ha c1
end
end Go.Proofs.YtmahcabidggmeaaGreatDoor
