/- Walks of the builder: where a block's labels lead to. -/
import Derived.Test.YtaknmhipaifdkaaDoorOc
set_option linter.unusedSimpArgs false
set_option linter.unusedVariables false
set_option linter.unusedSectionVars false
namespace Go.AB
open Go.RowKit
section
variable {κ : Type} [DecidableEq κ] {mk : κ → Value} {f : κ → Option Value} {w : World} {b : Nat}
/-- What a map's entries tell. -/
def MapE (es : Array MapEntry) (mk : κ → Value) (f : κ → Option Value) : Prop := ∃ l : List (κ × Value), es.toList.map (fun e => (e.key, e.val)) = l.map (fun p => (mk p.1, p.2)) ∧ ∀ a, lookK l a = f a
theorem MapF.ent (h : MapF w b mk f) : ∃ es c, w.heap[b]? = some (.map es c) ∧ MapE es mk f := by
  obtain ⟨es, c, h1, h2⟩ := h
  exact ⟨es, c, h1, h2⟩
theorem MapE.map {es : Array MapEntry} {c : Nat} (h : MapE es mk f) (hb : w.heap[b]? = some (.map es c)) : MapF w b mk f := ⟨es, c, hb, h⟩
theorem MapE.nil : MapE #[] mk (fun _ => none) := ⟨[], rfl, fun _ => rfl⟩
end
theorem assoc_snoc {α : Type} (l : List (ByteArray × α)) (a : ByteArray) (v : α) (h : assoc l a = none) (x : ByteArray) : assoc (l ++ [(a, v)]) x = if x = a then some v else assoc l x := by
  by_cases hx : x = a
  · subst hx
    rw [if_pos rfl]
    unfold assoc at h ⊢
    rw [List.find?_append]
    have h2 : l.find? (fun p => decide (p.1 = x)) = none := by simpa using h
    rw [h2]
    simp
  · have hax : ¬ a = x := fun e => hx e.symm
    rw [if_neg hx]
    unfold assoc
    rw [List.find?_append]
    simp [hax]
/-- One new struct, as a slice of one element. -/
theorem View.struct (w : World) (cs : List Value) (t : TypeId) {k : Nat} (hk : cs.length = k) : View (w.alloc (.cells cs.toArray t)) k (.slice (some ⟨w.heap.size, 0, none⟩) 1 1) 1 cs := by
  subst hk
  refine ⟨by simp, by simp [maxLen], _, _, rfl, Nat.le_refl _, by simp [maxLen], (fun h => by cases h), fun _ => ⟨_, _, rfl, fun j hj => ?_⟩⟩
  have hj' : j < cs.length := by omega
  rw [blk_cell (blk_alloc_new w _)]
  simp [List.getD, hj']
/-- The first elements of a list in memory of its own are cut to none. -/
theorem Row.zero {w : World} {e k : Nat} {ao : Option Addr} {n cap : Nat} {r : Option Nat} {xs : List Value} (h : Row w e k (.slice ao n cap) r n xs) : Row w e k (.slice ao 0 cap) r 0 [] := by
  rcases h.form with ⟨hv, _, _, hr⟩ | ⟨g, cap', cur, hv, hr, hn, hm, hg, hs, ht⟩
  · simp only [Value.slice.injEq] at hv
    obtain ⟨rfl, _, rfl⟩ := hv
    subst hr
    exact Row.nil _ _ _
  · simp only [Value.slice.injEq, true_and] at hv
    obtain ⟨rfl, rfl⟩ := hv
    subst hr
    exact ⟨⟨by simp, .inr ⟨g, cap, cur, rfl, Nat.zero_le _, hg, Nat.zero_le _, hm, hs, by simp⟩⟩, rfl⟩
end Go.AB
namespace Go.Proofs.YtaknmhipaifdkaaDoor
open Go.RowKit Go.AB
set_option linter.unusedSimpArgs false
set_option linter.unusedVariables false
set_option linter.unusedSectionVars false

theorem info_int : (Tryd.prog.info? 3).map (fun i => (i.zero, i.size, i.bytes)) = some (some (.int .i64 0), 1, 8) := by kernel_rfl
theorem elem_int : ElemOk Tryd.prog 57 3 1 8 := .of Tryd.underlying57 info_int rfl (by decide)
theorem info_plc : (Tryd.prog.info? 35).map (fun i => (i.zero, i.size, i.bytes)) = some (some (.agg #[.int .i64 0, .int .i64 0]), 2, 16) := by kernel_rfl
theorem elem_plc : ElemOk Tryd.prog 48 35 2 16 := .of Tryd.underlying48 info_plc rfl (by decide)
theorem zero_of {e : TypeId} {z : Value} {s n : Nat} (h : (Tryd.prog.info? e).map (fun i => (i.zero, i.size, i.bytes)) = some (some z, s, n)) (w : World) : (zeroValue e).run Tryd.prog w = .ok z w := by
  cases hi : Tryd.prog.info? e with
  | none => rw [hi] at h; cases h
  | some i =>
    rw [hi] at h
    simp only [Option.map_some, Option.some.injEq, Prod.mk.injEq] at h
    simp [zeroValue, typeInfo, hi, h.1]
theorem key_str : KeyOk Tryd.prog 9 ByteArray Value.string := key_string Tryd.underlying9
def intV (n : Nat) : Value := .int .i64 n
/-- What a table of labels tells. -/
def fBy (l : List (ByteArray × Nat)) (s : ByteArray) : Option Value := (assoc l s).map intV
def plC2 (q : Int × Int) : List Value := [.int .i64 q.1, .int .i64 q.2]
/-- An Item that is read. -/
theorem items_at {w : World} {ao : Option Addr} {n cap : Nat} {xs : List ItD} (h : Lst itC 10 w (.slice ao n cap) xs) {i : Nat} (hi : i < xs.length) {x : ItD} (hx : xs[i] = x) : ∃ b off, ao = some ⟨b, off, none⟩ ∧
    w.cell? ⟨b, off + i * 10, none⟩ = some (.int .i64 x.op) ∧ w.cell? ⟨b, off + i * 10 + 1, none⟩ = some (.int .i64 x.a) ∧ w.cell? ⟨b, off + i * 10 + 2, none⟩ = some (.int .i64 x.b) ∧ w.cell? ⟨b, off + i * 10 + 3, none⟩ = some (.int .i64 x.c) ∧
    w.cell? ⟨b, off + i * 10 + 4, none⟩ = some (.int .i64 x.n) ∧ w.cell? ⟨b, off + i * 10 + 5, none⟩ = some (.string x.name) ∧ w.cell? ⟨b, off + i * 10 + 6, none⟩ = some (.int .i64 x.p1) ∧ w.cell? ⟨b, off + i * 10 + 7, none⟩ = some (.int .i64 x.p2) ∧
    w.cell? ⟨b, off + i * 10 + 8, none⟩ = some (.int .i64 x.q1) ∧ w.cell? ⟨b, off + i * 10 + 9, none⟩ = some (.int .i64 x.q2) := by
  subst hx
  obtain ⟨b, off, e, hc⟩ := h.at itC_len hi (by omega)
  exact ⟨b, off, e, hc 0 (by omega), hc 1 (by omega), hc 2 (by omega), hc 3 (by omega), hc 4 (by omega), hc 5 (by omega), hc 6 (by omega), hc 7 (by omega), hc 8 (by omega), hc 9 (by omega)⟩
/-- What ways answers. -/
def WaysP (w : World) (d : Except Flt (List (ByteArray × Nat))) (e : Ending) (w' : World) : Prop :=
  (∃ f, d = .error f ∧ e = refused f ∧ Chg [] w w') ∨
  (∃ by' vo r m, d = .ok by' ∧ e = .returned (.tuple #[vo, .map (some m)]) ∧ MapF w' m Value.string (fBy by') ∧ w.heap.size ≤ m ∧ Row w' 3 1 vo r by'.length (by'.map fun p => intV p.2) ∧ Fresh w none r ∧ Chg [] w w')
/-- Where the loop stands. -/
structure WS (w wr : World) (by' : List (ByteArray × Nat)) (os : List (Int × Int)) (ao : Option Addr) (co : Nat) (ro : Option Nat) (ap : Option Addr) (cp : Nat) (rp : Option Nat) (m : Nat) (es : Array MapEntry) (c : Nat) : Prop where
  hp : Hp [] w wr [.row 3 1 (.slice ao by'.length co) ro by'.length (by'.map fun p => intV p.2), .row 35 2 (.slice ap os.length cp) rp os.length (os.flatMap plC2), .box m (.map es c)]
  map : MapE es Value.string (fBy by')

section
variable (items : List ItD) (hsz : ∀ x ∈ items, x.name.size ≤ 4294967296) (hlen : items.length ≤ 1048576)
include hsz hlen
set_option maxHeartbeats 4000000 in
set_option maxRecDepth 100000 in
theorem ways_calls {v : Value} (w : World) (hv : Lst itC 10 w v items) : Calls Tryd.prog 25 #[v] w (WaysP w (waysD items)) := by
  obtain ⟨ai, ci, rfl, hic, _, _⟩ := hv.len
  obtain ⟨D, hD⟩ : ∃ D, waysD items = D := ⟨_, rfl⟩
  rw [hD]
  have HD := hid hD
  have HV := hid hv
  have HSZ := hid hsz
  clear hD hv hsz
  have hmm := fun W => @run_makeMap Tryd.prog W
  have hp0 : Hp [] w (w.alloc (.map #[] 0)) [.row 3 1 (.slice none 0 0) none 0 [], .row 35 2 (.slice none 0 0) none 0 [], .box w.heap.size (.map #[] 0)] :=
    (((Hp.start (S0 := []) w (by simp)).box (.map #[] 0)).nil 35 2).nil 3 1
  have HP0 := hid hp0
  clear hp0
  go_enter Tryd.func25, Tryd.ntmps25
  go_wp2
  go_loopg [4, 5, 7, 15] items.length (fun gk vo vp vn vi wr => ∃ (by' : List (ByteArray × Nat)) (os : List (Int × Int)) (ao : Option Addr) (co : Nat) (ro : Option Nat) (ap : Option Addr) (cp : Nat) (rp : Option Nat) (es : Array MapEntry) (c n i : Nat),
    Hid (WS w wr by' os ao co ro ap cp rp w.heap.size es c) ∧ gk + i = items.length ∧ n ≤ i ∧ by'.length ≤ i ∧ os.length ≤ i ∧ vo = .slice ao by'.length co ∧ vp = .slice ap os.length cp ∧ vn = .int .i64 n ∧ vi = .int .i64 i ∧ Hid (waysGo (items.drop i) n by' os.head? = D))
  case atStart => exact ⟨[], [], none, 0, none, none, 0, none, #[], 0, 0, 0, hid ⟨HP0.out, MapE.nil⟩, by omega, by omega, by simp, by simp, rfl, rfl, rfl, rfl, HD⟩
  case round =>
    obtain ⟨by', os, ao, co, ro, ap, cp, rp, es, c, n, i, HW, hgi, hn, hbl, hol, rfl, rfl, rfl, rfl, HE⟩ := hrel
    by_cases hlt : i < items.length
    · obtain ⟨x, hx⟩ : ∃ x, items[i] = x := ⟨_, rfl⟩
      obtain ⟨bi, oi, hai, x0, x1, x2, x3, x4, x5, x6, x7, x8, x9⟩ := items_at (HV.out.keep HW.out.hp.chg) hlt hx
      have hxs : x.name.size ≤ 4294967296 := by rw [← hx]; exact HSZ.out _ (List.getElem_mem hlt)
      have hEq : waysGo (x :: items.drop (i + 1)) n by' os.head? = D := by rw [← HE.out, List.drop_eq_getElem_cons hlt, hx]
      have HQ := hid hEq
      subst hai
      have HL := hid (look_calls x hxs)
      clear hx hxs hEq
      go_wp2_with (go_at_call 34; refine halt (fun X hX => ?_))
      rw [hX.out]; clear hX
      refine (HL.out _).mono ?_
      rintro e w2 ⟨hc2, hways⟩
      have hcu : Chg [] wr w2 := ((Chg.refl [] wr).alloc _).trans' hc2
      have hbx := hc2.heap (heap_alloc_new wr (.cells #[.int .i64 x.op, .int .i64 x.a, .int .i64 x.b, .int .i64 x.c, .int .i64 x.n, .string x.name, .int .i64 x.p1, .int .i64 x.p2, .int .i64 x.q1, .int .i64 x.q2] 82)) (by simp)
      have hp2 := HW.out.hp.same hcu
      have HP2 := hid hp2
      have y0 : w2.cell? ⟨wr.heap.size, 0, none⟩ = some (.int .i64 x.op) := blk_cell hbx 0
      have y5 : w2.cell? ⟨wr.heap.size, 5, none⟩ = some (.string x.name) := blk_cell hbx 5
      have y6 : w2.cell? ⟨wr.heap.size, 6, none⟩ = some (.int .i64 x.p1) := blk_cell hbx 6
      have y7 : w2.cell? ⟨wr.heap.size, 7, none⟩ = some (.int .i64 x.p2) := blk_cell hbx 7
      have HBX := hid hbx
      clear hbx hp2 x0 x1 x2 x3 x4 x5 x6 x7 x8 x9
      rcases hways with ⟨hlk, rfl⟩ | ⟨hlk, rfl⟩
      · by_cases hop : x.op = 0
        · have t0 : (x.op != 0) = false := by simp [hop]
          cases ha : assoc by' x.name with
          | some k =>
            have hlu := (HW.out.map.map (HP2.out.get (i := 2) rfl)).lookup key_str Tryd.underlying83 (zero_of info_int w2) x.name true
            have hfb : fBy by' x.name = some (intV k) := by unfold fBy; rw [ha]; rfl
            rw [hfb] at hlu
            simp only [Option.getD_some, Option.isSome_some, if_true] at hlu
            have hD2 : D = .error ⟨90, x.p1, x.p2⟩ := by
              rw [← HQ.out]; unfold waysGo; rw [if_neg (by simp [hlk]), if_neg (by simp [hop]), if_pos (by rw [ha]; rfl)]
            have HD2 := hid hD2
            clear hfb hD2 ha hop hlk
            go_wp2_with (go_at_call 35; refine (refuse_calls _ _ _ _).mono ?_; rintro e w' ⟨rfl, hcr⟩)
            exact ⟨rfl, .inl ⟨_, HD2.out, rfl, HW.out.hp.chg.trans' (hcu.trans' hcr)⟩⟩
          | none =>
            have hlu := (HW.out.map.map (HP2.out.get (i := 2) rfl)).lookup key_str Tryd.underlying83 (zero_of info_int w2) x.name true
            have hfb : fBy by' x.name = none := by unfold fBy; rw [ha]; rfl
            rw [hfb] at hlu
            simp only [Option.getD_none, Option.isSome_none, if_true] at hlu
            have hD2 : waysGo (items.drop (i + 1)) n (by' ++ [(x.name, n)]) (some (os.head?.getD (x.p1, x.p2))) = D := by
              rw [← HQ.out]
              conv => rhs; unfold waysGo
              rw [if_neg (by simp [hlk]), if_neg (by simp [hop]), if_neg (by rw [ha]; simp)]
            have HD2 := hid hD2
            have hfn : ∀ s, (if s = x.name then some (.int .i64 (n : Int)) else fBy by' s) = fBy (by' ++ [(x.name, n)]) s := fun s => by
              unfold fBy
              rw [assoc_snoc by' x.name n ha]
              by_cases e : s = x.name
              · rw [if_pos e, if_pos e]; rfl
              · rw [if_neg e, if_neg e]
            have HFN := hid hfn
            have hmf := HW.out.map.map (HP2.out.get (i := 2) rfl)
            clear hfb hD2 ha hop hlk hfn
            go_wp2_with (at_mapUpdate; refine wpList_mapF rfl _ _ _ 83 rfl key_str Tryd.underlying83 rfl hmf _ rfl rfl (fun w3 hm3 hc3 => halt (fun X hX => ?_)))
            rw [hX.out]; clear hX
            obtain ⟨es3, c3, hb3, hE3⟩ := (hm3.congr HFN.out).ent
            have hp3 := HP2.out.set (i := 2) rfl (.box w.heap.size (.map es3 c3)) hc3 (fun g hg => by simp only [List.mem_singleton] at hg; subst hg; rfl) hb3 (fun g hg => .inl hg) rfl
            have hn3 : wr.heap.size ∉ [w.heap.size] := by
              have := (HW.out.hp.lt (x := .box w.heap.size (.map es c)) (by simp) rfl)
              simp; omega
            have hbx3 := hc3.heap HBX.out hn3
            have y0 : w3.cell? ⟨wr.heap.size, 0, none⟩ = some (.int .i64 x.op) := blk_cell hbx3 0
            have y6 : w3.cell? ⟨wr.heap.size, 6, none⟩ = some (.int .i64 x.p1) := blk_cell hbx3 6
            have y7 : w3.cell? ⟨wr.heap.size, 7, none⟩ = some (.int .i64 x.p2) := blk_cell hbx3 7
            have HP3 := hid hp3
            have HE3 := hid hE3
            have HB3 := hid hbx3
            have hro := fun o => (hp3.rowAt (i := 0) rfl).keep ((Chg.refl [] w3).alloc o) (by simp)
            clear hm3 hc3 hb3 hp3 hE3 hlu hmf hbx3
            go_wp2_with (at_builtin; refine wpList_grew rfl _ _ 57 rfl elem_int rfl (hro _) rfl (View.one _ _ _) (by simp [Value.oneCell']) (by unfold maxLen; omega) (by omega) (fun ao4 co4 ro4 w4 hr4 hg4 => halt (fun X hX => ?_)))
            rw [hX.out]; clear hX
            have hp4 := HP3.out.grow 0 rfl ((Chg.refl [] w3).alloc _) hr4 hg4.chg hg4.fresh rfl
            have hrow0 := HP3.out.rowAt (i := 0) rfl
            have hbx4 : w4.heap[wr.heap.size]? = _ := hg4.chg.heap (((Chg.refl [] w3).alloc _).heap HB3.out (by simp)) (fun hm => by
              have h1 : ro = some wr.heap.size := by simpa using hm
              have := (HW.out.hp.rowAt (i := 0) rfl).lt _ h1
              omega)
            have z6 : w4.cell? ⟨wr.heap.size, 6, none⟩ = some (.int .i64 x.p1) := blk_cell hbx4 6
            have z7 : w4.cell? ⟨wr.heap.size, 7, none⟩ = some (.int .i64 x.p2) := blk_cell hbx4 7
            have HP4 := hid hp4
            have hro5 := (hp4.rowAt (i := 1) rfl).keep ((Chg.refl [] w4).alloc (.cells #[.int .i64 x.p1, .int .i64 x.p2] 35)) (by simp)
            have hv5 := View.struct (k := 2) w4 [.int .i64 x.p1, .int .i64 x.p2] 35 rfl
            clear hro hr4 hg4 hp4 hrow0 hbx4 y0 y6 y7
            go_wp2_with (at_builtin; refine wpList_grew rfl _ _ 48 rfl elem_plc rfl hro5 rfl hv5 (by simp [Value.oneCell']) (by unfold maxLen; omega) (by omega) (fun ap5 cp5 rp5 w5 hr5 hg5 => halt (fun X hX => ?_)))
            rw [hX.out]; clear hX
            have hp5 := HP4.out.grow 1 rfl ((Chg.refl [] w4).alloc _) hr5 hg5.chg hg5.fresh rfl
            have hws : WS w w5 (by' ++ [(x.name, n)]) (os ++ [(x.p1, x.p2)]) ao4 co4 ro4 ap5 cp5 rp5 w.heap.size es3 c3 := by
              refine ⟨?_, HE3.out⟩
              simpa [intV, plC2] using hp5
            have HWS := hid hws
            have hh : (some (os.head?.getD (x.p1, x.p2))) = (os ++ [(x.p1, x.p2)]).head? := by cases os <;> rfl
            have HD3 : Hid (waysGo (items.drop (i + 1)) n (by' ++ [(x.name, n)]) (os ++ [(x.p1, x.p2)]).head? = D) := hid (by rw [← hh]; exact HD2.out)
            clear hro5 hv5 hr5 hg5 hp5 hws z6 z7 hh
            go_wp2
            go_roundg (gk - 1)
            case measure => omega
            case rel => exact ⟨by' ++ [(x.name, n)], os ++ [(x.p1, x.p2)], ao4, co4, ro4, ap5, cp5, rp5, es3, c3, n, i + 1, HWS, by omega, by omega, by simp; omega, by simp; omega, by simp, by simp, rfl, by go_num, HD3⟩
        · have t0 : (x.op != 0) = true := by simp [hop]
          have hD2 : waysGo (items.drop (i + 1)) (n + 1) by' none = D := by
            rw [← HQ.out]
            conv => rhs; unfold waysGo
            rw [if_neg (by simp [hlk]), if_pos hop]
          have HD2 := hid hD2
          have hws : WS w w2 by' [] ao co ro ap cp rp w.heap.size es c := ⟨HP2.out.set (i := 1) rfl (.row 35 2 (.slice ap 0 cp) rp 0 []) (S := []) (Chg.refl _ _) (by simp) (Row.zero (HP2.out.rowAt (i := 1) rfl)) (fun g hg => .inl hg) rfl, HW.out.map⟩
          have HWS := hid hws
          have hfm := (HP2.out.rowAt (i := 1) rfl).form
          clear hop hlk hD2 hws
          rcases hfm with ⟨hv, _, _, _⟩ | ⟨g, cap', cur, hv, _⟩
          · simp only [Value.slice.injEq] at hv
            obtain ⟨rfl, _, rfl⟩ := hv
            go_wp2
            go_roundg (gk - 1)
            case measure => omega
            case rel => exact ⟨by', [], ao, co, ro, none, 0, rp, es, c, n + 1, i + 1, HWS, by omega, by omega, by omega, by simp, rfl, rfl, by go_num, by go_num, HD2⟩
          · simp only [Value.slice.injEq] at hv
            obtain ⟨rfl, _, rfl⟩ := hv
            go_wp2
            go_roundg (gk - 1)
            case measure => omega
            case rel => exact ⟨by', [], ao, co, ro, some ⟨g, 0, none⟩, cp, rp, es, c, n + 1, i + 1, HWS, by omega, by omega, by omega, by simp, rfl, rfl, by go_num, by go_num, HD2⟩
      · have hD2 : D = .error ⟨95, x.p1, x.p2⟩ := by
          rw [← HQ.out]; unfold waysGo; rw [if_pos hlk]
        have HD2 := hid hD2
        clear hD2 hlk
        go_wp2
        exact ⟨rfl, .inl ⟨_, HD2.out, rfl, HW.out.hp.chg.trans' hcu⟩⟩
    · have hnil : items.drop i = [] := List.drop_eq_nil_of_le (by omega)
      have hEq := HE.out
      rw [hnil] at hEq
      cases os with
      | nil =>
        have hD2 : D = .ok by' := by rw [← hEq]; rfl
        have HD2 := hid hD2
        clear hEq hD2 hnil
        go_wp2
        go_ret2
        exact .inr ⟨by', _, ro, w.heap.size, HD2.out, rfl, HW.out.map.map (HW.out.hp.get (i := 2) rfl), Nat.le_refl _, HW.out.hp.rowAt (i := 0) rfl, fun g hg => .inr (HW.out.hp.lo _ (List.mem_cons_self ..) g hg), HW.out.hp.chg⟩
      | cons q os' =>
        have hD2 : D = .error ⟨93, q.1, q.2⟩ := by rw [← hEq]; rfl
        have HD2 := hid hD2
        have hrow := (HW.out.hp.rowAt (i := 1) rfl)
        rcases hrow.form with ⟨_, hz, _⟩ | ⟨g, cap', cur, hv, hrg, _⟩
        · simp at hz
        · simp only [Value.slice.injEq] at hv
          obtain ⟨rfl, _, rfl⟩ := hv
          subst hrg
          have hck := hrow.cellk.1
          have q0 : wr.cell? ⟨g, 0, none⟩ = some (.int .i64 q.1) := hck 0 (by simp)
          have q1 : wr.cell? ⟨g, 1, none⟩ = some (.int .i64 q.2) := hck 1 (by simp; omega)
          clear hEq hD2 hnil hrow hck
          go_wp2_with (go_at_call 35; refine (refuse_calls _ _ _ _).mono ?_; rintro e w' ⟨rfl, hcr⟩)
          exact ⟨rfl, .inl ⟨_, HD2.out, rfl, HW.out.hp.chg.trans' hcr⟩⟩
end
end Go.Proofs.YtaknmhipaifdkaaDoor
