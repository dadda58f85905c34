/- Walks of the printer: Print. (Printed by gen_pprint.py.) -/
import Derived.Test.YtmahcabidggmeaaGreatDoorVpt
import Derived.Test.YtmahcabidggmeaaGreatDoorPk4
set_option linter.unusedVariables false
set_option linter.unusedSectionVars false
set_option linter.unusedSimpArgs false
namespace Go.AB
open Go.RowKit
theorem name_short {s : List UInt8} (h : nameP s = true) : s.length ≤ 24 := (name_free h).2
theorem kindTab_len : ∀ s ∈ kindTab, s.length ≤ 10 := by decide +kernel
theorem data_len (s : ByteArray) : s.data.toList.length = s.size := by rw [Array.length_toList]; rfl
theorem decl_short {d : DcD} (hd : SmallD d) (h : declOk d = true) : (declS d).length ≤ 200 := by
  unfold declOk at h
  simp only [Bool.and_eq_true] at h
  have hn := name_short h.1.2
  have hi := Lib.itoa_length_le d.val hd.2.1 hd.2.2
  have hk : ((kindTab[(d.kind - 1).toNat]?).getD []).length ≤ 10 := by
    rcases ho : kindTab[(d.kind - 1).toNat]? with _ | s
    · simp
    · exact kindTab_len s (List.mem_of_getElem? ho)
  unfold declS numS
  split <;> simp only [List.length_append, List.length_cons, List.length_nil] <;> omega
theorem oper_short {x : ItD} (hx : SmallI x) (hn : x.name.size ≤ 24) (c : UInt8) {k : Nat} (hk : k < 3) : (operS c k x).length ≤ 24 := by
  have hr := hx.rg k hk
  unfold operS numS
  split
  · have h1 : (if k = 0 then x.a else if k = 1 then x.b else x.c) = regOf x k := rfl
    rw [h1]
    have := Lib.itoa_length_le (regOf x k) hr.1 hr.2
    simp only [List.length_cons]
    omega
  · split
    · have := Lib.itoa_length_le x.n hx.n0 hx.n1
      omega
    · rw [data_len]; exact hn
theorem opers_short {x : ItD} (hx : SmallI x) (hn : x.name.size ≤ 24) : ∀ (F : List UInt8) (k : Nat), k + F.length ≤ 3 → (opersS F k x).length ≤ F.length * 26
  | [], _, _ => by simp [opersS]
  | c :: F, k, h => by
    simp only [List.length_cons] at h ⊢
    have h1 := oper_short hx hn c (k := k) (by omega)
    have h2 := opers_short hx hn F (k + 1) (by omega)
    unfold opersS
    simp only [List.length_append]
    split <;> simp only [List.length_cons, List.length_nil] <;> omega
theorem item_short {x : ItD} (hx : SmallI x) (h : itemOk x = true) : (itemS x).length ≤ 200 := by
  have hn : x.name.size ≤ 24 := by
    unfold itemOk at h
    simp only [Bool.and_eq_true] at h
    have h2 := h.2
    generalize (if x.op = 0 then [120] else formAt x.op) = F at h2
    split at h2
    · have := name_short h2
      rw [data_len] at this
      exact this
    · have := of_decide_eq_true h2
      omega
  unfold itemS
  split
  · simp only [List.length_append, List.length_cons, List.length_nil, data_len]
    omega
  · have h1 := word_len x.op
    have h3 := (form_all x.op).2.2.1
    have h2 := opers_short hx hn (formAt x.op) 0 (by omega)
    simp only [List.length_append, List.length_cons, List.length_nil]
    omega
theorem blocks_len : ∀ (bs : List BkD), (∀ b ∈ bs, b.items.length ≤ 2097152) → (bs.flatMap blockS).length ≤ bs.length * 2097153
  | [], _ => by simp
  | b :: bs, h => by
    have h1 := blocks_len bs fun x hx => h x (List.mem_cons_of_mem _ hx)
    have h2 := h b (List.mem_cons_self ..)
    simp only [List.flatMap_cons, List.length_append, List.length_cons, blockS, List.length_map]
    omega
theorem lines_short {u : UnD} (hu : SmallN u) (h : unitOk u = true) : (linesS u).length ≤ 4398052802560 ∧ ∀ s ∈ linesS u, s.length ≤ 200 := by
  unfold unitOk at h
  simp only [Bool.and_eq_true, List.all_eq_true] at h
  unfold linesS
  refine ⟨?_, fun s hs => ?_⟩
  · have h1 := blocks_len u.blocks hu.il
    have h2 := hu.dl
    have h3 := hu.bl
    simp only [List.length_append, List.length_map]
    omega
  · rcases List.mem_append.1 hs with hs | hs
    · obtain ⟨d, hd, rfl⟩ := List.mem_map.1 hs
      exact decl_short (hu.ds d hd) (h.1 d hd)
    · obtain ⟨b, hb, hs⟩ := List.mem_flatMap.1 hs
      have hbk := h.2 b hb
      unfold blockOk at hbk
      simp only [Bool.and_eq_true, List.all_eq_true] at hbk
      unfold blockS at hs
      rcases List.mem_cons.1 hs with rfl | hs
      · have := name_short hbk.1
        simp only [List.length_append, List.length_cons, List.length_nil]
        omega
      · obtain ⟨x, hx, rfl⟩ := List.mem_map.1 hs
        exact item_short (hu.is b hb x hx) (hbk.2 x hx)
/-- The text of some lines. -/
def catS (ls : List (List UInt8)) : List UInt8 := ls.flatMap fun l => l ++ [10]
theorem catS_take {ls : List (List UInt8)} {i : Nat} {s : List UInt8} (hi : i < ls.length) (hs : ls[i] = s) : catS (ls.take (i + 1)) = catS (ls.take i) ++ s ++ [10] := by
  unfold catS
  rw [List.take_succ_eq_append_getElem hi, hs, List.flatMap_append]
  simp
theorem catS_all {ls : List (List UInt8)} {i : Nat} (hi : ls.length ≤ i) : catS (ls.take i) = catS ls := by rw [List.take_of_length_le hi]
theorem catS_len {ls : List (List UInt8)} (h : ∀ s ∈ ls, s.length ≤ 200) : (catS ls).length ≤ ls.length * 201 := by
  induction ls with
  | nil => simp [catS]
  | cons a ls ih =>
    have h1 := ih fun s hs => h s (List.mem_cons_of_mem _ hs)
    have h2 := h a (List.mem_cons_self ..)
    unfold catS at h1 ⊢
    simp only [List.flatMap_cons, List.length_append, List.length_cons, List.length_nil]
    omega
theorem catS_mono {ls : List (List UInt8)} (i : Nat) : (catS (ls.take i)).length ≤ (catS ls).length := by
  conv => rhs; rw [← List.take_append_drop i ls]
  unfold catS
  rw [List.flatMap_append, List.length_append]
  omega
end Go.AB
namespace Go.Proofs.YtmahcabidggmeaaGreatDoor
open Go.RowKit Go.AB
set_option linter.unusedSimpArgs false
set_option linter.unusedVariables false
set_option linter.unusedSectionVars false

/-- What Print answers. -/
def PrnP (w : World) (p : Except Nat (List UInt8)) (e : Ending) (w' : World) : Prop :=
  (∃ k : Nat, p = .error k ∧ e = .returned (.tuple #[.string ⟨#[]⟩, .int .i64 k]) ∧ Chg [] w w') ∨
  (∃ s, p = .ok s ∧ s.length ≤ 1048576 ∧ e = .returned (.tuple #[.string (bA s), .int .i64 0]) ∧ Chg [] w w')
set_option maxHeartbeats 16000000 in
set_option maxRecDepth 100000 in
theorem print_calls {v : Value} (u : UnD) (hu : SmallN u) (w : World) (hvu : UnV w v u) (hv : VarsP w) : Calls Tryz.prog 11 #[v] w (PrnP w (printD u)) := by
  have HL := hid fun W (hc : Chg [] w W) => lines_calls u hu W (hvu.keep hc) (hv.keep hc)
  have HU := hid hu
  obtain ⟨va, vb, bs, rfl, _, _, _, _⟩ := id hvu
  clear hvu hv hu
  have HC1 := hid ((Chg.refl [] w).alloc (.cells #[va, vb] 25))
  go_enter Tryz.func11, Tryz.ntmps11
  go_wp2_with (go_at_call 23; refine (HL.out _ HC1.out).mono ?_; rintro e w1 HE; refine halt (fun XX hXX => ?_))
  rcases HE with ⟨hno, rfl, hc1⟩ | ⟨hok, ao, n, cap, rfl, hvw, hc1⟩
  · have HN := hid hno
    have HC := hid (HC1.out.trans' hc1)
    clear hno hc1
    rw [hXX.out]; clear hXX XX
    go_wp2
    go_ret2
    exact .inl ⟨85, by unfold printD; rw [if_pos HN.out], rfl, HC.out⟩
  obtain ⟨ls, hls⟩ : ∃ ls, linesS u = ls := ⟨_, rfl⟩
  have hsh := lines_short HU.out hok
  rw [hls] at hvw hsh
  have HO := hid hok
  have hln : ls.length = n := by have := hvw.1; simpa using this
  have hnb := hsh.1
  have hcl := catS_len hsh.2
  obtain ⟨T, hT⟩ : ∃ T, (catS ls).length = T := ⟨_, rfl⟩
  rw [hln] at hnb hcl
  rw [hT] at hcl
  have hnm : n ≤ maxLen := hvw.2.1
  have hTX : ls.length = n := hln
  have HT : Hid ((catS ls).length = T ∧ textS u = catS ls) := hid ⟨hT, by rw [← hls]; rfl⟩
  have HC := hid (HC1.out.trans' hc1)
  have HV := hid hvw
  have HLN := hid hln
  have HS := hid hsh.2
  clear hok hsh hln hT hvw hc1 hls hTX HL HC1
  rw [hXX.out]; clear hXX XX
  go_upto_region 6 with fail
  go_loopg [6, 21] n (fun gk v6 v21 wr => ∃ i : Nat, v21 = .int .i64 i ∧ v6 = .int .i64 ((catS (ls.take i)).length : Nat) ∧ Hid (gk + i = n) ∧ Hid (Chg [] w1 wr))
  case atStart => exact ⟨0, rfl, rfl, hid (by omega), hid (Chg.refl _ _)⟩
  case round =>
    obtain ⟨i, rfl, rfl, HG, HR⟩ := hrel
    obtain ⟨t, ht⟩ : ∃ t, (catS (ls.take i)).length = t := ⟨_, rfl⟩
    have htT : t ≤ T := by rw [← ht, ← HT.out.1]; exact catS_mono i
    by_cases hlt : i < n
    · have hil : i < ls.length := by rw [HLN.out]; exact hlt
      obtain ⟨s, hs⟩ : ∃ s, ls[i] = s := ⟨_, rfl⟩
      have htk := catS_take hil hs
      have hsl : s.length ≤ 200 := HS.out s (by rw [← hs]; exact List.getElem_mem _)
      obtain ⟨_, _, ao', cap', hv1, _, _, _, h3⟩ := HV.out
      simp only [Value.slice.injEq, true_and] at hv1
      obtain ⟨rfl, rfl⟩ := hv1
      obtain ⟨b, off, rfl, hcell⟩ := h3 (by omega)
      have x0 : wr.cell? ⟨b, off + i, none⟩ = some (.string (bA s)) := HR.out.cell (by rw [hcell i (by omega)]; simp [List.getD, hil, hs]) (by simp)
      have hsz : (bA s).size = s.length := bA_size s
      have HTK : Hid ((catS (ls.take (i + 1))).length = t + (s.length + 1)) := hid (by rw [htk, ← ht]; simp only [List.length_append, List.length_cons, List.length_nil]; omega)
      rw [ht]
      clear hcell h3 htk hs hil ht
      go_wp2_with fail
      go_roundg (gk - 1)
      case measure => have := HG.out; omega
      case rel => exact ⟨i + 1, rfl, by rw [HTK.out]; push_cast; rfl, hid (by have := HG.out; omega), HR⟩
    · have hin : i = n := by have := HG.out; omega
      have htT : t = T := by rw [← ht, ← HT.out.1, catS_all (by rw [HLN.out]; omega)]
      rw [ht]
      subst htT
      clear ht hin HG
      by_cases hbig : 1048576 < t
      · go_wp2_with fail
        go_ret2
        refine .inl ⟨3, ?_, rfl, HC.out.trans' HR.out⟩
        unfold printD
        rw [if_neg (by rw [HO.out]; decide), HT.out.2, HT.out.1, if_pos hbig]
      have HCR := hid (HC.out.trans' HR.out)
      have hws : w1.heap.size ≤ wr.heap.size := HR.out.size
      have HVR := hid (HV.out.keep HR.out (fun _ _ => by simp))
      obtain ⟨wo, rfl⟩ : ∃ wo : World, wo = wr := ⟨_, rfl⟩
      have hbst := Bld.start wo
      have HBS := hid hbst
      have HB0 := hid (((Chg.refl [] wo).alloc (.cells #[.pointer none, .slice none 0 0] 81)))
      clear hbst
      go_upto_region 14 with fail
      generalize wo.alloc (.cells #[.pointer none, .slice none 0 0] 81) = w2 at HBS HB0 ⊢
      obtain ⟨PB, hPB⟩ : ∃ PB, wo.heap.size = PB := ⟨_, rfl⟩
      rw [hPB] at HBS ⊢
      have HPB := hid hPB
      clear hPB
      go_loopg [35] n (fun gk v35 wr => ∃ (j : Nat) (r : Option Nat) (a2 : Option Addr) (c2 : Nat), v35 = .int .i64 j ∧ Hid (gk + j = n) ∧ Hid (Bld wr PB (catS (ls.take j)) r a2 c2 ∧ Chg [] wo wr ∧ ∀ g, r = some g → PB ≤ g))
      case atStart => exact ⟨0, none, none, 0, rfl, hid (by omega), hid ⟨HBS.out, HB0.out, by simp⟩⟩
      case round =>
        obtain ⟨j, r, a2, c2, rfl, HG, HB⟩ := hrel
        by_cases hlj : j < n
        · have hjl : j < ls.length := by rw [HLN.out]; exact hlj
          obtain ⟨s, hs⟩ : ∃ s, ls[j] = s := ⟨_, rfl⟩
          have htk := catS_take hjl hs
          have hb1 : (catS (ls.take j)).length + s.length + 1 ≤ 1048576 := by
            have h1 := catS_mono (ls := ls) (j + 1)
            rw [htk, HT.out.1] at h1
            simp only [List.length_append, List.length_cons, List.length_nil] at h1
            omega
          obtain ⟨acc, hacc⟩ : ∃ acc, catS (ls.take j) = acc := ⟨_, rfl⟩
          rw [hacc] at hb1 htk HB
          obtain ⟨_, _, ao', cap', hv1, _, _, _, h3⟩ := HVR.out
          simp only [Value.slice.injEq, true_and] at hv1
          obtain ⟨rfl, rfl⟩ := hv1
          obtain ⟨b, off, rfl, hcell⟩ := h3 (by omega)
          have x0 : wr.cell? ⟨b, off + j, none⟩ = some (.string (bA s)) := HB.out.2.1.cell (by rw [hcell j (by omega)]; simp [List.getD, hjl, hs]) (by simp)
          have HWS := hid (wstring_calls s HB.out.1 (by omega))
          have HTK := hid htk
          have HB1 := hid hb1
          clear hcell h3 htk hs hjl hacc hb1
          go_wp2_with (go_at_call 24; refine HWS.out.mono ?_; rintro e w3 ⟨rfl, r3, a3, c3, hb3, hc3, hf3⟩; refine halt (fun XX hXX => ?_))
          have hwb := wbyte_calls 10 hb3 (by have := HB1.out; simp only [List.length_append]; omega)
          have HWB : Hid (Calls Tryz.prog 25 #[.pointer (some ⟨PB, 0, none⟩), .int .u8 10] w3 _) := hid hwb
          have HC3 := hid (And.intro hc3 hf3)
          clear hwb hb3 hc3 hf3 x0
          rw [hXX.out]; clear hXX XX
          go_wp2_with (go_at_call 25; refine HWB.out.mono ?_; rintro e w4 ⟨rfl, r4, a4, c4, hb4, hc4, hf4⟩; refine halt (fun XX hXX => ?_))
          have hr3 : ∀ g, r3 = some g → PB ≤ g := fun g hg => by
            rcases HC3.out.2 g hg with h | h
            · exact HB.out.2.2 g h
            · have := HPB.out; have := HB.out.2.1.size; omega
          have hr4 : ∀ g, r4 = some g → PB ≤ g := fun g hg => by
            rcases hf4 g hg with h | h
            · exact hr3 g h
            · have := HPB.out; have := HB.out.2.1.size; have := HC3.out.1.size; omega
          have hc5 : Chg [] wo w4 := (HB.out.2.1.trans HC3.out.1 (fun x hx => by
            have := HPB.out
            rcases List.mem_cons.1 hx with h | h
            · exact .inr (by omega)
            · exact .inr (by have := HB.out.2.2 x (by simpa using h); omega))).trans hc4 (fun x hx => by
            have := HPB.out
            rcases List.mem_cons.1 hx with h | h
            · exact .inr (by omega)
            · exact .inr (by have := hr3 x (by simpa using h); omega))
          have HZ : Hid (Bld w4 PB (catS (ls.take (j + 1))) r4 a4 c4 ∧ Chg [] wo w4 ∧ ∀ g, r4 = some g → PB ≤ g) := hid ⟨by rw [HTK.out]; exact hb4, hc5, hr4⟩
          clear hb4 hc4 hf4 hr3 hr4 hc5
          rw [hXX.out]; clear hXX XX
          go_wp2_with fail
          go_roundg (gk - 1)
          case measure => have := HG.out; omega
          case rel => exact ⟨j + 1, r4, a4, c4, rfl, hid (by have := HG.out; omega), HZ⟩
        · have hjn : ls.length ≤ j := by rw [HLN.out]; omega
          rw [catS_all hjn] at HB
          have HST := hid (bstring_calls HB.out.1 (Nat.le_refl _) HB.out.2.2 (by have := HPB.out; have := HB.out.2.1.size; omega))
          have HTT := hid hbig
          clear hjn hbig
          go_wp2_with (go_at_call 26; refine HST.out.mono ?_; rintro e w3 ⟨rfl, hbl⟩; refine halt (fun XX hXX => ?_))
          have HC5 : Hid (Chg [] wo w3) := hid (by
            have h1 := HB.out.2.1.to_below
            rw [HPB.out] at h1
            have h2 := h1.trans hbl
            rw [← HPB.out] at h2
            exact Chg.of_below h2 _)
          clear hbl
          rw [hXX.out]; clear hXX XX
          go_wp2
          go_ret2
          refine .inr ⟨catS ls, ?_, ?_, rfl, HCR.out.trans' HC5.out⟩
          · unfold printD
            rw [if_neg (by rw [HO.out]; decide), HT.out.2, if_neg (by rw [HT.out.1]; exact HTT.out)]
          · have := HTT.out; have := HT.out.1; omega
end Go.Proofs.YtmahcabidggmeaaGreatDoor
