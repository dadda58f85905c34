/- Walks of the builder: a block's thread. -/
import Derived.Test.YtaknmhipaifdkaaDoorOg
set_option linter.unusedVariables false
set_option linter.unusedSectionVars false
namespace Go.Proofs.YtaknmhipaifdkaaDoor
open Go.RowKit Go.AB
set_option linter.unusedSimpArgs false
set_option linter.unusedVariables false
set_option linter.unusedSectionVars false

section
variable {st : Nms} {by' : List (ByteArray × Nat)} {x : ItD} {r : List ItD} {all : Nat} {c : List InsD} {p : List PlcD}
theorem codeGo_lab (h : x.op = 0) : codeGo st by' (x :: r) all c p = codeGo st by' r all c p := by
  conv => lhs; unfold codeGo
  rw [if_pos h]
theorem codeGo_many (h : ¬ x.op = 0) (h2 : 262144 < all + 1 ∨ 4096 ≤ c.length) : codeGo st by' (x :: r) all c p = .error ⟨94, x.p1, x.p2⟩ := by
  unfold codeGo
  rw [if_neg h, if_pos h2]
theorem codeGo_bad (h : ¬ x.op = 0) (h2 : ¬ (262144 < all + 1 ∨ 4096 ≤ c.length)) {f : Flt} (h3 : targD st by' x = .error f) : codeGo st by' (x :: r) all c p = .error f := by
  unfold codeGo
  rw [if_neg h, if_neg h2, h3]
theorem codeGo_ok (h : ¬ x.op = 0) (h2 : ¬ (262144 < all + 1 ∨ 4096 ≤ c.length)) {n : Int} (h3 : targD st by' x = .ok n) : codeGo st by' (x :: r) all c p = codeGo st by' r (all + 1) (c ++ [⟨x.op, x.a, x.b, x.c, n⟩]) (p ++ [⟨x.p1, x.p2⟩]) := by
  conv => lhs; unfold codeGo
  rw [if_neg h, if_neg h2, h3]
end
theorem info_ins : (Tryd.prog.info? 64).map (fun i => (i.zero, i.size, i.bytes)) = some (some (.agg #[.int .i64 0, .int .i64 0, .int .i64 0, .int .i64 0, .int .i64 0]), 5, 40) := by kernel_rfl
theorem elem_ins : ElemOk Tryd.prog 47 64 5 40 := .of Tryd.underlying47 info_ins rfl (by decide)
def irow (ac : Option Addr) (cc : Nat) (rc : Option Nat) (c : List InsD) : It := .row 64 5 (.slice ac c.length cc) rc c.length (c.flatMap insC)
def prow (ap : Option Addr) (cp : Nat) (rp : Option Nat) (ps : List PlcD) : It := .row 35 2 (.slice ap ps.length cp) rp ps.length (ps.flatMap plcC)
def rbox (w : World) : It := .box (w.heap.size + 1) (.cells #[.string ⟨#[]⟩, .slice none 0 0, .slice none 0 0] 50 (0, 0))
/-- What thread answers. -/
def ThrP (w : World) (b bk bc : Nat) (st : Nms) (d : Except Flt (Nat × ThrD)) (e : Ending) (w' : World) : Prop :=
  (∃ f, d = .error f ∧ e = refused f ∧ Chg [b] w w') ∨
  (∃ all' t ac cc rc ap cp rp, d = .ok (all', t) ∧ e = .returned (.agg #[.string t.name, .slice ac t.code.length cc, .slice ap t.places.length cp]) ∧ BS w' b bk bc st all' ∧ Hp [b] w w' [irow ac cc rc t.code, prow ap cp rp t.places] ∧ all' ≤ 262144)
/-- Where the loop stands. -/
structure TS (w wr : World) (b bk bc m X : Nat) (nm : ByteArray) (st : Nms) (all : Nat) (c : List InsD) (ps : List PlcD) (ac : Option Addr) (cc : Nat) (rc : Option Nat) (ap : Option Addr) (cp : Nat) (rp : Option Nat) (es : Array MapEntry) (ck : Nat) : Prop where
  hp : Hp [b] w wr [irow ac cc rc c, prow ap cp rp ps, .box X (.cells #[.string nm, .slice ac c.length cc, .slice ap ps.length cp] 50 (0, 0)), .box m (.map es ck), rbox w]
  bs : BS wr b bk bc st all
  ma : all ≤ 262144
  mc : c.length ≤ 4096
  mp : ps.length = c.length

section
variable {w wr w2 : World} {b bk bc m X : Nat} {nm : ByteArray} {st : Nms} {all : Nat} {c : List InsD} {ps : List PlcD} {ac ap : Option Addr} {cc cp : Nat} {rc rp : Option Nat} {es : Array MapEntry} {ck : Nat}
theorem TS.same (h : TS w wr b bk bc m X nm st all c ps ac cc rc ap cp rp es ck) (hc : Chg [] wr w2) : TS w w2 b bk bc m X nm st all c ps ac cc rc ap cp rp es ck :=
  ⟨h.hp.same hc, h.bs.keep hc (by simp) (by simp) (by simp), h.ma, h.mc, h.mp⟩
/-- One more is counted. -/
theorem TS.more (h : TS w wr b bk bc m X nm st all c ps ac cc rc ap cp rp es ck) :
    Hp [b] w (wr.setCell ⟨b, 2, none⟩ (.int .i64 ((all + 1 : Nat) : Int))) [irow ac cc rc c, prow ap cp rp ps, .box X (.cells #[.string nm, .slice ac c.length cc, .slice ap ps.length cp] 50 (0, 0)), .box m (.map es ck), rbox w] ∧ BS (wr.setCell ⟨b, 2, none⟩ (.int .i64 ((all + 1 : Nat) : Int))) b bk bc st (all + 1) ∧ Chg [b] wr (wr.setCell ⟨b, 2, none⟩ (.int .i64 ((all + 1 : Nat) : Int))) := by
  have hs : Chg [b] wr (wr.setCell ⟨b, 2, none⟩ (.int .i64 ((all + 1 : Nat) : Int))) := (Chg.refl [b] wr).setCell (p := ⟨b, 2, none⟩) (.inl (by simp)) _
  have hne := h.bs.ne
  exact ⟨h.hp.step hs, ⟨blk_set h.bs.blk 2 _, h.bs.kn.keep hs (by simp; omega), h.bs.ct.keep hs (by simp; omega), hne⟩, hs⟩
end
section
variable (k : BkD) (hsz : ∀ x ∈ k.items, x.name.size ≤ 4294967296) (hlen : k.items.length ≤ 1048576)
include hsz hlen
set_option maxHeartbeats 8000000 in
set_option maxRecDepth 100000 in
theorem thread_calls {w : World} {b bk bc : Nat} {st : Nms} {all : Nat} (hB : BS w b bk bc st all) (hall : all ≤ 262144) {v : Value} (hv : ∀ u, Chg [b] w u → Lst itC 10 u v k.items) :
    Calls Tryd.prog 28 #[.pointer (some ⟨b, 0, none⟩), .agg #[.string k.name, v, .int .i64 k.l, .int .i64 k.c]] w (ThrP w b bk bc st (thrD st all k)) := by
  obtain ⟨nm, items, kl, kc⟩ := k
  simp only at hsz hlen hv ⊢
  obtain ⟨ai, ci, rfl, hic, _, _⟩ := (hv w (Chg.refl _ _)).len
  obtain ⟨D, hD⟩ : ∃ D, thrD st all ⟨nm, items, kl, kc⟩ = D := ⟨_, rfl⟩
  rw [hD]
  unfold thrD at hD
  simp only at hD
  have hbl := blk_lt hB.blk
  obtain ⟨wa, hwa⟩ : ∃ wa, ((w.alloc (.cells #[.string nm, .slice ai items.length ci, .int .i64 kl, .int .i64 kc] 56)).alloc (.cells #[.string ⟨#[]⟩, .slice none 0 0, .slice none 0 0] 50)) = wa := ⟨_, rfl⟩
  have hca : Chg [] w wa := by rw [← hwa]; exact ((Chg.refl [] w).alloc _).alloc _
  have hbx : wa.heap[w.heap.size]? = some (.cells #[.string nm, .slice ai items.length ci, .int .i64 kl, .int .i64 kc] 56 (0, 0)) := by rw [← hwa]; exact blk_alloc_old (heap_alloc_new w _) _
  have hba : wa.heap[w.heap.size + 1]? = some (.cells #[.string ⟨#[]⟩, .slice none 0 0, .slice none 0 0] 50 (0, 0)) := by
    rw [← hwa]
    have := heap_alloc_new (w.alloc (.cells #[.string nm, .slice ai items.length ci, .int .i64 kl, .int .i64 kc] 56)) (.cells #[.string ⟨#[]⟩, .slice none 0 0, .slice none 0 0] 50)
    simpa using this
  have HW := hid (ways_calls items hsz hlen wa (hv wa hca.nil))
  obtain ⟨E, hE⟩ : ∃ E, waysD items = E := ⟨_, rfl⟩
  rw [hE] at hD HW
  have x1 : wa.cell? ⟨w.heap.size, 1, none⟩ = some (.slice ai items.length ci) := blk_cell hbx 1
  have HSZ := hid hsz
  have HV := hid hv
  have HD := hid hD
  have HB := hid hB
  have HBX := hid (And.intro hbx (And.intro hba hca))
  clear hsz hv hD hE hB hbx hba hca
  go_enter Tryd.func28, Tryd.ntmps28
  go_wp2_with (go_at_call 25; refine halt (fun X hX => ?_))
  rw [hX.out]; clear hX
  refine HW.out.mono ?_
  rintro e w1 (⟨f, rfl, rfl, hc1⟩ | ⟨by', vo, ro, m, rfl, rfl, hm, hml, hro, hfo, hc1⟩)
  · go_wp2
    exact ⟨rfl, .inl ⟨_, HD.out.symm, rfl, (HBX.out.2.2.trans' hc1).nil⟩⟩
  · obtain ⟨es, ck, hbm, hes⟩ := hm.ent
    have hHD := HD.out
    simp only at hHD
    obtain ⟨G, hG⟩ : ∃ G, codeGo st by' items all [] [] = G := ⟨_, rfl⟩
    rw [hG] at hHD
    have HDG := hid hHD
    have HG := hid hG
    have hsza : w.heap.size + 2 ≤ m := by
      have : wa.heap.size = w.heap.size + 2 := by rw [← hwa]; simp
      omega
    have hp0 : Hp [b] w (w1.alloc (.cells #[.string nm, .slice none 0 0, .slice none 0 0] 50)) [irow none 0 none [], prow none 0 none [], .box w1.heap.size (.cells #[.string nm, .slice none 0 0, .slice none 0 0] 50 (0, 0)), .box m (.map es ck), rbox w] :=
      ((((((Hp.start (S0 := [b]) w (by simp; omega)).same (HBX.out.2.2.trans' hc1)).cons (rbox w) (hc1.heap HBX.out.2.1 (by simp)) (fun g hg => by simp only [It.blk, rbox, Option.some.injEq] at hg; subst hg; exact ⟨by omega, by simp⟩)).cons (.box m (.map es ck)) hbm (fun g hg => by simp only [It.blk, Option.some.injEq] at hg; subst hg; exact ⟨by omega, by simp [rbox, It.blk]; omega⟩)).box _).nil 35 2).nil 64 5
    have hB1 := HB.out.keep ((HBX.out.2.2.trans' hc1).alloc (.cells #[.string nm, .slice none 0 0, .slice none 0 0] 50)) (by simp) (by simp) (by simp)
    have HTS : Hid (TS w _ b bk bc m w1.heap.size nm st all [] [] none 0 none none 0 none es ck) := hid ⟨hp0, hB1, hall, by simp, rfl⟩
    have hbx1 := hc1.heap HBX.out.1 (by simp)
    have y0 : w1.cell? ⟨w.heap.size, 0, none⟩ = some (.string nm) := blk_cell hbx1 0
    have y1 : ∀ o, (w1.alloc o).cell? ⟨w.heap.size, 1, none⟩ = some (.slice ai items.length ci) := fun o => blk_cell (blk_alloc_old hbx1 o) 1
    have hwb1 := blk_lt hbx1
    have HBA := hid (hc1.heap HBX.out.2.1 (by simp))
    have HES := hid hes
    have HC1 := hid (HBX.out.2.2.trans' hc1)
    clear hG hp0 hB1 hbm hes hro hfo hc1 hm hbx1 HW hHD hml
    go_wp2_with fail
    go_loopg [22] items.length (fun gk vi wr => ∃ (all : Nat) (c : List InsD) (ps : List PlcD) (ac : Option Addr) (cc : Nat) (rc : Option Nat) (ap : Option Addr) (cp : Nat) (rp : Option Nat) (i : Nat),
      Hid (TS w wr b bk bc m w1.heap.size nm st all c ps ac cc rc ap cp rp es ck) ∧ gk + i = items.length ∧ vi = .int .i64 i ∧ Hid (codeGo st by' (items.drop i) all c ps = G))
    case atStart => exact ⟨all, [], [], none, 0, none, none, 0, none, 0, HTS, by omega, rfl, HG⟩
    case round =>
      obtain ⟨all, c, ps, ac, cc, rc, ap, cp, rp, i, HT, hgi, rfl, HE⟩ := hrel
      by_cases hlt : i < items.length
      · obtain ⟨x, hx⟩ : ∃ x, items[i] = x := ⟨_, rfl⟩
        obtain ⟨bi, oi, hai, x0, x1, x2, x3, x4, x5, x6, x7, x8, x9⟩ := items_at (HV.out _ HT.out.hp.chg) hlt hx
        have hEq : codeGo st by' (x :: items.drop (i + 1)) all c ps = G := by rw [← HE.out, List.drop_eq_getElem_cons hlt, hx]
        have HQ := hid hEq
        subst hai
        clear hx hEq
        have hTi := HT.out.same ((Chg.refl [] wr).alloc (.cells #[.int .i64 x.op, .int .i64 x.a, .int .i64 x.b, .int .i64 x.c, .int .i64 x.n, .string x.name, .int .i64 x.p1, .int .i64 x.p2, .int .i64 x.q1, .int .i64 x.q2] 82))
        have hbl := blk_lt HT.out.bs.blk
        by_cases hop : x.op = 0
        · have t0 : (x.op == 0) = true := by simp [hop]
          have HN : Hid (codeGo st by' (items.drop (i + 1)) all c ps = G) := hid (by rw [← HQ.out, codeGo_lab hop])
          have HTI := hid hTi
          clear hop hTi
          go_wp2
          go_roundg (gk - 1)
          case measure => omega
          case rel => exact ⟨all, c, ps, ac, cc, rc, ap, cp, rp, i + 1, HTI, by omega, by go_num, HN⟩
        · have t0 : (x.op == 0) = false := by simp [hop]
          have hma := HT.out.ma
          have hmc := HT.out.mc
          have hmp := HT.out.mp
          have b2a : ∀ o, (wr.alloc o).cell? ⟨b, 2, none⟩ = some (.int .i64 all) := fun o => (HT.out.bs.keep ((Chg.refl [] wr).alloc o) (by simp) (by simp) (by simp)).c2
          have bfa : ∀ o, (wr.alloc o).frozen? ⟨b, 2, none⟩ = false := fun o => blk_free (HT.out.bs.keep ((Chg.refl [] wr).alloc o) (by simp) (by simp) (by simp)).blk 2
          have hmore := hTi.more
          rw [show (((all + 1 : Nat)) : Int) = (all : Int) + 1 from by simp] at hmore
          have nbw : b ≠ wr.heap.size := by omega
          have nwb : wr.heap.size ≠ b := by omega
          obtain ⟨wz, hwz⟩ : ∃ wz, ((wr.alloc (.cells #[.int .i64 x.op, .int .i64 x.a, .int .i64 x.b, .int .i64 x.c, .int .i64 x.n, .string x.name, .int .i64 x.p1, .int .i64 x.p2, .int .i64 x.q1, .int .i64 x.q2] 82)).setCell ⟨b, 2, none⟩ (.int .i64 ((all : Int) + 1))) = wz := ⟨_, rfl⟩
          have hbz : wz.heap[wr.heap.size]? = some (.cells #[.int .i64 x.op, .int .i64 x.a, .int .i64 x.b, .int .i64 x.c, .int .i64 x.n, .string x.name, .int .i64 x.p1, .int .i64 x.p2, .int .i64 x.q1, .int .i64 x.q2] 82 (0, 0)) := by rw [← hwz]; exact (blk_set_other (by omega) _ _).trans (heap_alloc_new wr _)
          have hcz : Chg [b] w wz := by rw [← hwz]; exact (HT.out.hp.chg.trans' ((Chg.refl [b] wr).alloc _)).trans' hmore.2.2
          rw [hwz] at hmore
          have hX1 : wz.cell? ⟨w1.heap.size, 1, none⟩ = some (.slice ac c.length cc) := hmore.1.cell (i := 2) rfl 1
          have z6 : wz.cell? ⟨wr.heap.size, 6, none⟩ = some (.int .i64 x.p1) := blk_cell hbz 6
          have z7 : wz.cell? ⟨wr.heap.size, 7, none⟩ = some (.int .i64 x.p2) := blk_cell hbz 7
          have b2z : wz.cell? ⟨b, 2, none⟩ = some (.int .i64 ((all : Int) + 1)) := blk_cell hmore.2.1.blk 2
          by_cases hA : 262144 < all + 1
          · have HD2 := hid ((codeGo_many (st := st) (by' := by') (r := items.drop (i + 1)) (p := ps) hop (.inl hA)).symm.trans HQ.out)
            have g1 : decide ((262144 : Int) < (all : Int) + 1) = true := decide_eq_true (by omega)
            have HMO := hid hmore
            clear hop hA hmore hTi hbz
            go_wp2_with (go_at_call 35; refine (refuse_calls _ _ _ _).mono ?_; rintro e w' ⟨rfl, hcr⟩)
            refine ⟨rfl, .inl ⟨⟨94, x.p1, x.p2⟩, ?_, rfl, hcz.trans' hcr.nil⟩⟩
            rw [← HDG.out, ← HD2.out]
          · have g1 : decide ((262144 : Int) < (all : Int) + 1) = false := decide_eq_false (by omega)
            by_cases hC : 4096 ≤ c.length
            · have HD2 := hid ((codeGo_many (st := st) (by' := by') (r := items.drop (i + 1)) (p := ps) hop (.inr hC)).symm.trans HQ.out)
              have g2 : decide ((4096 : Int) ≤ (c.length : Int)) = true := decide_eq_true (by omega)
              have HMO := hid hmore
              clear hop hA hC hmore hTi hbz
              go_wp2_with (go_at_call 35; refine (refuse_calls _ _ _ _).mono ?_; rintro e w' ⟨rfl, hcr⟩)
              refine ⟨rfl, .inl ⟨⟨94, x.p1, x.p2⟩, ?_, rfl, hcz.trans' hcr.nil⟩⟩
              rw [← HDG.out, ← HD2.out]
            · have g2 : decide ((4096 : Int) ≤ (c.length : Int)) = false := decide_eq_false (by omega)
              have htg := fun u (hu : Chg [] wz u) => target_calls (hmore.2.1.keep hu (by simp) (by simp) (by simp)) ((HES.out.map (hmore.1.get (i := 3) rfl)).keep hu (by simp)) x
              cases hT : targD st by' x with
              | error f =>
                have HD2 := hid ((codeGo_bad (r := items.drop (i + 1)) (p := ps) hop (by omega) hT).symm.trans HQ.out)
                have HTG : Hid (∀ u, Chg [] wz u → Calls Tryd.prog 37 #[.pointer (some ⟨b, 0, none⟩), .agg #[.int .i64 x.op, .int .i64 x.a, .int .i64 x.b, .int .i64 x.c, .int .i64 x.n, .string x.name, .int .i64 x.p1, .int .i64 x.p2, .int .i64 x.q1, .int .i64 x.q2], .map (some m)] u fun e w' => e = refused f ∧ Chg [] u w') := hid (fun u hu => (htg u hu).mono (fun e w' hp => by
                  rw [hT] at hp
                  rcases hp with ⟨f', h1, h2, h3⟩ | ⟨n, h1, _⟩
                  · simp only [Except.error.injEq] at h1; subst h1; exact ⟨h2, h3⟩
                  · cases h1))
                have z0 : wz.cell? ⟨wr.heap.size, 0, none⟩ = some (.int .i64 x.op) := blk_cell hbz 0
                have z1 : wz.cell? ⟨wr.heap.size, 1, none⟩ = some (.int .i64 x.a) := blk_cell hbz 1
                have z2 : wz.cell? ⟨wr.heap.size, 2, none⟩ = some (.int .i64 x.b) := blk_cell hbz 2
                have z3 : wz.cell? ⟨wr.heap.size, 3, none⟩ = some (.int .i64 x.c) := blk_cell hbz 3
                have z4 : wz.cell? ⟨wr.heap.size, 4, none⟩ = some (.int .i64 x.n) := blk_cell hbz 4
                have z5 : wz.cell? ⟨wr.heap.size, 5, none⟩ = some (.string x.name) := blk_cell hbz 5
                have z6 : wz.cell? ⟨wr.heap.size, 6, none⟩ = some (.int .i64 x.p1) := blk_cell hbz 6
                have z7 : wz.cell? ⟨wr.heap.size, 7, none⟩ = some (.int .i64 x.p2) := blk_cell hbz 7
                have z8 : wz.cell? ⟨wr.heap.size, 8, none⟩ = some (.int .i64 x.q1) := blk_cell hbz 8
                have z9 : wz.cell? ⟨wr.heap.size, 9, none⟩ = some (.int .i64 x.q2) := blk_cell hbz 9
                have HMO := hid (And.intro hmore hTi)
                clear hop hA hC hmore hTi hbz htg hT
                go_wp2_with fail
                (refine wp_region_held_drew (S := (fun w' => w'.cell? ⟨w1.heap.size, 1, none⟩ = some (.slice ac c.length cc) ∧ w'.cell? ⟨wr.heap.size, 0, none⟩ = some (.int .i64 x.op) ∧ w'.cell? ⟨wr.heap.size, 1, none⟩ = some (.int .i64 x.a) ∧ w'.cell? ⟨wr.heap.size, 2, none⟩ = some (.int .i64 x.b) ∧ w'.cell? ⟨wr.heap.size, 3, none⟩ = some (.int .i64 x.c) ∧ w'.cell? ⟨wr.heap.size, 4, none⟩ = some (.int .i64 x.n) ∧ w'.cell? ⟨wr.heap.size, 5, none⟩ = some (.string x.name) ∧ w'.cell? ⟨wr.heap.size, 6, none⟩ = some (.int .i64 x.p1) ∧ w'.cell? ⟨wr.heap.size, 7, none⟩ = some (.int .i64 x.p2) ∧ w'.cell? ⟨wr.heap.size, 8, none⟩ = some (.int .i64 x.q1) ∧ w'.cell? ⟨wr.heap.size, 9, none⟩ = some (.int .i64 x.q2))) (by kernel_rfl) (by exact ⟨hX1, z0, z1, z2, z3, z4, z5, z6, z7, z8, z9⟩) (fun hHeld => ?_); (refine wpAnyH_take (i := 0) (v := ?_) rfl (by kernel_rfl) (by kernel_rfl) (by kernel_rfl) (fun _ _ _ h => h) (Or.inl ⟨by rfl, ?_⟩) (by assumption) ?_; rotate_left 1; (focus (intro w hSw; (try dsimp only at hSw); go_simp; (try with_reducible rfl))); (try simp only [List.getElem_toArray, List.getElem_cons_zero, List.getElem_cons_succ, Act.put, List.setIfInBounds_toArray, List.set_cons_zero, List.set_cons_succ])); (refine wpAnyH_take (i := 1) (v := ?_) rfl (by kernel_rfl) (by kernel_rfl) (by kernel_rfl) (fun _ _ _ h => h) (Or.inl ⟨by rfl, ?_⟩) (by assumption) ?_; rotate_left 1; (focus (intro w hSw; (try dsimp only at hSw); go_simp; (try with_reducible rfl))); (try simp only [List.getElem_toArray, List.getElem_cons_zero, List.getElem_cons_succ, Act.put, List.setIfInBounds_toArray, List.set_cons_zero, List.set_cons_succ])); (refine wpAnyH_take (i := 2) (v := ?_) rfl (by kernel_rfl) (by kernel_rfl) (by kernel_rfl) (fun _ _ _ h => h) (Or.inl ⟨by rfl, ?_⟩) (by assumption) ?_; rotate_left 1; (focus (intro w hSw; (try dsimp only at hSw); go_simp; (try with_reducible rfl))); (try simp only [List.getElem_toArray, List.getElem_cons_zero, List.getElem_cons_succ, Act.put, List.setIfInBounds_toArray, List.set_cons_zero, List.set_cons_succ])); (refine wpAnyH_take (i := 3) (v := ?_) rfl (by kernel_rfl) (by kernel_rfl) (by kernel_rfl) (fun _ _ _ h => h) (Or.inl ⟨by rfl, ?_⟩) (by assumption) ?_; rotate_left 1; (focus (intro w hSw; (try dsimp only at hSw); go_simp; (try with_reducible rfl))); (try simp only [List.getElem_toArray, List.getElem_cons_zero, List.getElem_cons_succ, Act.put, List.setIfInBounds_toArray, List.set_cons_zero, List.set_cons_succ])); (refine wpAnyH_take (i := 4) (v := ?_) rfl (by kernel_rfl) (by kernel_rfl) (by kernel_rfl) (fun _ _ _ h => h) (Or.inl ⟨by rfl, ?_⟩) (by assumption) ?_; rotate_left 1; (focus (intro w hSw; (try dsimp only at hSw); go_simp; (try with_reducible rfl))); (try simp only [List.getElem_toArray, List.getElem_cons_zero, List.getElem_cons_succ, Act.put, List.setIfInBounds_toArray, List.set_cons_zero, List.set_cons_succ])); (refine wpAnyH_take (i := 5) (v := ?_) rfl (by kernel_rfl) (by kernel_rfl) (by kernel_rfl) (fun _ _ _ h => h) (Or.inl ⟨by rfl, ?_⟩) (by assumption) ?_; rotate_left 1; (focus (intro w hSw; (try dsimp only at hSw); go_simp; (try with_reducible rfl))); (try simp only [List.getElem_toArray, List.getElem_cons_zero, List.getElem_cons_succ, Act.put, List.setIfInBounds_toArray, List.set_cons_zero, List.set_cons_succ])); (refine wpAnyH_take (i := 6) (v := ?_) rfl (by kernel_rfl) (by kernel_rfl) (by kernel_rfl) (fun _ _ _ h => h) (Or.inl ⟨by rfl, ?_⟩) (by assumption) ?_; rotate_left 1; (focus (intro w hSw; (try dsimp only at hSw); go_simp; (try with_reducible rfl))); (try simp only [List.getElem_toArray, List.getElem_cons_zero, List.getElem_cons_succ, Act.put, List.setIfInBounds_toArray, List.set_cons_zero, List.set_cons_succ])); (refine wpAnyH_take (i := 7) (v := ?_) rfl (by kernel_rfl) (by kernel_rfl) (by kernel_rfl) (fun _ _ _ h => h) (Or.inl ⟨by rfl, ?_⟩) (by assumption) ?_; rotate_left 1; (focus (intro w hSw; (try dsimp only at hSw); go_simp; (try with_reducible rfl))); (try simp only [List.getElem_toArray, List.getElem_cons_zero, List.getElem_cons_succ, Act.put, List.setIfInBounds_toArray, List.set_cons_zero, List.set_cons_succ])); (refine wpAnyH_take (i := 8) (v := ?_) rfl (by kernel_rfl) (by kernel_rfl) (by kernel_rfl) (fun _ _ _ h => h) (Or.inl ⟨by rfl, ?_⟩) (by assumption) ?_; rotate_left 1; (focus (intro w hSw; (try dsimp only at hSw); go_simp; (try with_reducible rfl))); (try simp only [List.getElem_toArray, List.getElem_cons_zero, List.getElem_cons_succ, Act.put, List.setIfInBounds_toArray, List.set_cons_zero, List.set_cons_succ])); (refine wpAnyH_take (i := 9) (v := ?_) rfl (by kernel_rfl) (by kernel_rfl) (by kernel_rfl) (fun _ _ _ h => h) (Or.inl ⟨by rfl, ?_⟩) (by assumption) ?_; rotate_left 1; (focus (intro w hSw; (try dsimp only at hSw); go_simp; (try with_reducible rfl))); (try simp only [List.getElem_toArray, List.getElem_cons_zero, List.getElem_cons_succ, Act.put, List.setIfInBounds_toArray, List.set_cons_zero, List.set_cons_succ])); (refine wpAnyH_take (i := 10) (v := ?_) rfl (by kernel_rfl) (by kernel_rfl) (by kernel_rfl) (fun _ _ _ h => h) (Or.inl ⟨by rfl, ?_⟩) (by assumption) ?_; rotate_left 1; (focus (intro w hSw; (try dsimp only at hSw); go_simp; (try with_reducible rfl))); (try simp only [List.getElem_toArray, List.getElem_cons_zero, List.getElem_cons_succ, Act.put, List.setIfInBounds_toArray, List.set_cons_zero, List.set_cons_succ])); (refine wpAnyH_take (i := 11) (v := ?_) rfl (by kernel_rfl) (by kernel_rfl) (by kernel_rfl) (fun _ _ _ h => h) (Or.inl ⟨by rfl, ?_⟩) (by assumption) ?_; rotate_left 1; (focus (intro w hSw; (try dsimp only at hSw); go_simp; (try with_reducible rfl))); (try simp only [List.getElem_toArray, List.getElem_cons_zero, List.getElem_cons_succ, Act.put, List.setIfInBounds_toArray, List.set_cons_zero, List.set_cons_succ])); (refine wpAnyH_take (i := 12) (v := ?_) rfl (by kernel_rfl) (by kernel_rfl) (by kernel_rfl) (fun _ _ _ h => h) (Or.inl ⟨by rfl, ?_⟩) (by assumption) ?_; rotate_left 1; (focus (intro w hSw; (try dsimp only at hSw); go_simp; (try with_reducible rfl))); (try simp only [List.getElem_toArray, List.getElem_cons_zero, List.getElem_cons_succ, Act.put, List.setIfInBounds_toArray, List.set_cons_zero, List.set_cons_succ])); (refine wpAnyH_ready (rs := [13]) (by kernel_rfl) (by simp) ?_; refine AllReadyH.cons rfl (fun K hK => ?_) AllReadyH.nil; go_simp); (go_at_call 37; refine (HTG.out _ ((Chg.refl [] wz).drew)).mono ?_; rintro e w' ⟨rfl, hcr⟩))
                refine ⟨rfl, .inl ⟨f, ?_, rfl, hcz.trans' ((Chg.refl [] wz).drew.trans' hcr).nil⟩⟩
                rw [← HDG.out, ← HD2.out]
              | ok n =>
                have HD2 := hid ((codeGo_ok (r := items.drop (i + 1)) (p := ps) hop (by omega) hT).symm.trans HQ.out)
                have HTG : Hid (∀ u, Chg [] wz u → Calls Tryd.prog 37 #[.pointer (some ⟨b, 0, none⟩), .agg #[.int .i64 x.op, .int .i64 x.a, .int .i64 x.b, .int .i64 x.c, .int .i64 x.n, .string x.name, .int .i64 x.p1, .int .i64 x.p2, .int .i64 x.q1, .int .i64 x.q2], .map (some m)] u fun e w' => e = .returned (.int .i64 n) ∧ Chg [] u w') := hid (fun u hu => (htg u hu).mono (fun e w' hp => by
                  rw [hT] at hp
                  rcases hp with ⟨f', h1, _⟩ | ⟨n', h1, h2, h3⟩
                  · cases h1
                  · simp only [Except.ok.injEq] at h1; subst h1; exact ⟨h2, h3⟩))
                have z0 : wz.cell? ⟨wr.heap.size, 0, none⟩ = some (.int .i64 x.op) := blk_cell hbz 0
                have z1 : wz.cell? ⟨wr.heap.size, 1, none⟩ = some (.int .i64 x.a) := blk_cell hbz 1
                have z2 : wz.cell? ⟨wr.heap.size, 2, none⟩ = some (.int .i64 x.b) := blk_cell hbz 2
                have z3 : wz.cell? ⟨wr.heap.size, 3, none⟩ = some (.int .i64 x.c) := blk_cell hbz 3
                have z4 : wz.cell? ⟨wr.heap.size, 4, none⟩ = some (.int .i64 x.n) := blk_cell hbz 4
                have z5 : wz.cell? ⟨wr.heap.size, 5, none⟩ = some (.string x.name) := blk_cell hbz 5
                have z6 : wz.cell? ⟨wr.heap.size, 6, none⟩ = some (.int .i64 x.p1) := blk_cell hbz 6
                have z7 : wz.cell? ⟨wr.heap.size, 7, none⟩ = some (.int .i64 x.p2) := blk_cell hbz 7
                have z8 : wz.cell? ⟨wr.heap.size, 8, none⟩ = some (.int .i64 x.q1) := blk_cell hbz 8
                have z9 : wz.cell? ⟨wr.heap.size, 9, none⟩ = some (.int .i64 x.q2) := blk_cell hbz 9
                have HMP := hid hmp
                have hmp1 : ps.length ≤ 4096 := by omega
                have HMO := hid hmore
                have hrow0 := hmore.1.rowAt (i := 0) rfl
                have HR0 := hid hrow0
                have HBZ := hid hbz
                have hAA : all + 1 ≤ 262144 := by omega
                have hCC : c.length + 1 ≤ 4096 := by omega
                clear hop hA hC hmore hTi hbz htg hT hrow0 hmc hma hmp
                go_wp2_with fail
                have HRL := hid HR0.out.lt
                have HRL : Hid (∀ g, rc = some g → g < wr.heap.size) := hid (HT.out.hp.rowAt (i := 0) rfl).lt
                have hxw : w1.heap.size < wr.heap.size := HT.out.hp.lt (x := .box w1.heap.size (.cells #[.string nm, .slice ac c.length cc, .slice ap ps.length cp] 50 (0, 0))) (by simp) rfl
                (refine wp_region_held_drew (S := (fun w' => w'.cell? ⟨wr.heap.size, 0, none⟩ = some (.int .i64 x.op) ∧ w'.cell? ⟨wr.heap.size, 1, none⟩ = some (.int .i64 x.a) ∧ w'.cell? ⟨wr.heap.size, 2, none⟩ = some (.int .i64 x.b) ∧ w'.cell? ⟨wr.heap.size, 3, none⟩ = some (.int .i64 x.c) ∧ w'.cell? ⟨wr.heap.size, 4, none⟩ = some (.int .i64 x.n) ∧ w'.cell? ⟨wr.heap.size, 5, none⟩ = some (.string x.name) ∧ w'.cell? ⟨wr.heap.size, 6, none⟩ = some (.int .i64 x.p1) ∧ w'.cell? ⟨wr.heap.size, 7, none⟩ = some (.int .i64 x.p2) ∧ w'.cell? ⟨wr.heap.size, 8, none⟩ = some (.int .i64 x.q1) ∧ w'.cell? ⟨wr.heap.size, 9, none⟩ = some (.int .i64 x.q2))) (by kernel_rfl) (by exact ⟨z0, z1, z2, z3, z4, z5, z6, z7, z8, z9⟩) (fun hHeld => ?_); (refine wpAnyH_take (i := 0) (v := ?_) rfl (by kernel_rfl) (by kernel_rfl) (by kernel_rfl) (fun _ _ _ h => h) (Or.inl ⟨by rfl, ?_⟩) (by assumption) ?_; rotate_left 1; (focus (intro w hSw; (try dsimp only at hSw); go_simp; (try with_reducible rfl))); (try simp only [List.getElem_toArray, List.getElem_cons_zero, List.getElem_cons_succ, Act.put, List.setIfInBounds_toArray, List.set_cons_zero, List.set_cons_succ])); (refine wpAnyH_take (i := 2) (v := ?_) rfl (by kernel_rfl) (by kernel_rfl) (by kernel_rfl) (fun _ _ _ h => h) (Or.inl ⟨by rfl, ?_⟩) (by assumption) ?_; rotate_left 1; (focus (intro w hSw; (try dsimp only at hSw); go_simp; (try with_reducible rfl))); (try simp only [List.getElem_toArray, List.getElem_cons_zero, List.getElem_cons_succ, Act.put, List.setIfInBounds_toArray, List.set_cons_zero, List.set_cons_succ])); (refine wpAnyH_take (i := 3) (v := ?_) rfl (by kernel_rfl) (by kernel_rfl) (by kernel_rfl) (fun _ _ _ h => h) (Or.inl ⟨by rfl, ?_⟩) (by assumption) ?_; rotate_left 1; (focus (intro w hSw; (try dsimp only at hSw); go_simp; (try with_reducible rfl))); (try simp only [List.getElem_toArray, List.getElem_cons_zero, List.getElem_cons_succ, Act.put, List.setIfInBounds_toArray, List.set_cons_zero, List.set_cons_succ])); (refine wpAnyH_take (i := 4) (v := ?_) rfl (by kernel_rfl) (by kernel_rfl) (by kernel_rfl) (fun _ _ _ h => h) (Or.inl ⟨by rfl, ?_⟩) (by assumption) ?_; rotate_left 1; (focus (intro w hSw; (try dsimp only at hSw); go_simp; (try with_reducible rfl))); (try simp only [List.getElem_toArray, List.getElem_cons_zero, List.getElem_cons_succ, Act.put, List.setIfInBounds_toArray, List.set_cons_zero, List.set_cons_succ])); (refine wpAnyH_take (i := 5) (v := ?_) rfl (by kernel_rfl) (by kernel_rfl) (by kernel_rfl) (fun _ _ _ h => h) (Or.inl ⟨by rfl, ?_⟩) (by assumption) ?_; rotate_left 1; (focus (intro w hSw; (try dsimp only at hSw); go_simp; (try with_reducible rfl))); (try simp only [List.getElem_toArray, List.getElem_cons_zero, List.getElem_cons_succ, Act.put, List.setIfInBounds_toArray, List.set_cons_zero, List.set_cons_succ])); (refine wpAnyH_take (i := 6) (v := ?_) rfl (by kernel_rfl) (by kernel_rfl) (by kernel_rfl) (fun _ _ _ h => h) (Or.inl ⟨by rfl, ?_⟩) (by assumption) ?_; rotate_left 1; (focus (intro w hSw; (try dsimp only at hSw); go_simp; (try with_reducible rfl))); (try simp only [List.getElem_toArray, List.getElem_cons_zero, List.getElem_cons_succ, Act.put, List.setIfInBounds_toArray, List.set_cons_zero, List.set_cons_succ])); (refine wpAnyH_take (i := 7) (v := ?_) rfl (by kernel_rfl) (by kernel_rfl) (by kernel_rfl) (fun _ _ _ h => h) (Or.inl ⟨by rfl, ?_⟩) (by assumption) ?_; rotate_left 1; (focus (intro w hSw; (try dsimp only at hSw); go_simp; (try with_reducible rfl))); (try simp only [List.getElem_toArray, List.getElem_cons_zero, List.getElem_cons_succ, Act.put, List.setIfInBounds_toArray, List.set_cons_zero, List.set_cons_succ])); (refine wpAnyH_take (i := 8) (v := ?_) rfl (by kernel_rfl) (by kernel_rfl) (by kernel_rfl) (fun _ _ _ h => h) (Or.inl ⟨by rfl, ?_⟩) (by assumption) ?_; rotate_left 1; (focus (intro w hSw; (try dsimp only at hSw); go_simp; (try with_reducible rfl))); (try simp only [List.getElem_toArray, List.getElem_cons_zero, List.getElem_cons_succ, Act.put, List.setIfInBounds_toArray, List.set_cons_zero, List.set_cons_succ])); (refine wpAnyH_take (i := 9) (v := ?_) rfl (by kernel_rfl) (by kernel_rfl) (by kernel_rfl) (fun _ _ _ h => h) (Or.inl ⟨by rfl, ?_⟩) (by assumption) ?_; rotate_left 1; (focus (intro w hSw; (try dsimp only at hSw); go_simp; (try with_reducible rfl))); (try simp only [List.getElem_toArray, List.getElem_cons_zero, List.getElem_cons_succ, Act.put, List.setIfInBounds_toArray, List.set_cons_zero, List.set_cons_succ])); (refine wpAnyH_take (i := 10) (v := ?_) rfl (by kernel_rfl) (by kernel_rfl) (by kernel_rfl) (fun _ _ _ h => h) (Or.inl ⟨by rfl, ?_⟩) (by assumption) ?_; rotate_left 1; (focus (intro w hSw; (try dsimp only at hSw); go_simp; (try with_reducible rfl))); (try simp only [List.getElem_toArray, List.getElem_cons_zero, List.getElem_cons_succ, Act.put, List.setIfInBounds_toArray, List.set_cons_zero, List.set_cons_succ])); (refine wpAnyH_take (i := 11) (v := ?_) rfl (by kernel_rfl) (by kernel_rfl) (by kernel_rfl) (fun _ _ _ h => h) (Or.inl ⟨by rfl, ?_⟩) (by assumption) ?_; rotate_left 1; (focus (intro w hSw; (try dsimp only at hSw); go_simp; (try with_reducible rfl))); (try simp only [List.getElem_toArray, List.getElem_cons_zero, List.getElem_cons_succ, Act.put, List.setIfInBounds_toArray, List.set_cons_zero, List.set_cons_succ])); (refine wpAnyH_take (i := 12) (v := ?_) rfl (by kernel_rfl) (by kernel_rfl) (by kernel_rfl) (fun _ _ _ h => h) (Or.inl ⟨by rfl, ?_⟩) (by assumption) ?_; rotate_left 1; (focus (intro w hSw; (try dsimp only at hSw); go_simp; (try with_reducible rfl))); (try simp only [List.getElem_toArray, List.getElem_cons_zero, List.getElem_cons_succ, Act.put, List.setIfInBounds_toArray, List.set_cons_zero, List.set_cons_succ])); (refine wpAnyH_ready (rs := [1, 13]) (by kernel_rfl) (by simp) ?_; refine AllReadyH.cons rfl (fun K hK => ?_) (AllReadyH.cons rfl (fun K hK => ?_) AllReadyH.nil)); (focus (go_simp; (refine hK.out _ _ (by exact hHeld) (fun hHeld => ?_); clear hK K; (try simp only [List.getElem_toArray, List.getElem_cons_zero, List.getElem_cons_succ, Act.put, List.setIfInBounds_toArray, List.set_cons_zero, List.set_cons_succ])); (refine wpAnyH_ready (rs := [13]) (by kernel_rfl) (by simp) ?_; refine AllReadyH.cons rfl (fun K hK => ?_) AllReadyH.nil; go_simp; go_at_call 37; refine (HTG.out _ ((Chg.refl [] wz).drew)).mono ?_; rintro e w4 ⟨rfl, hc4⟩; have hz4 : Chg [] wz w4 := ((Chg.refl [] wz).drew).trans' hc4; have v1 := hz4.cell hX1 (by simp); have v1a := (fun o => (hz4.alloc o).cell hX1 (by simp)); (refine hK.out _ _ (by exact (by exact ⟨hc4.cell hHeld.1 (by simp), hc4.cell hHeld.2.1 (by simp), hc4.cell hHeld.2.2.1 (by simp), hc4.cell hHeld.2.2.2.1 (by simp), hc4.cell hHeld.2.2.2.2.1 (by simp), hc4.cell hHeld.2.2.2.2.2.1 (by simp), hc4.cell hHeld.2.2.2.2.2.2.1 (by simp), hc4.cell hHeld.2.2.2.2.2.2.2.1 (by simp), hc4.cell hHeld.2.2.2.2.2.2.2.2.1 (by simp), hc4.cell hHeld.2.2.2.2.2.2.2.2.2 (by simp)⟩)) (fun hHeld => ?_); clear hK K; (try simp only [List.getElem_toArray, List.getElem_cons_zero, List.getElem_cons_succ, Act.put, List.setIfInBounds_toArray, List.set_cons_zero, List.set_cons_succ]))); (refine wpAnyH_take (i := 14) (v := ?_) rfl (by kernel_rfl) (by kernel_rfl) (by kernel_rfl) (fun _ _ _ h => h) (Or.inl ⟨by rfl, ?_⟩) (by assumption) ?_; rotate_left 1; (focus (intro w hSw; (try dsimp only at hSw); go_simp; (try with_reducible rfl))); (try simp only [List.getElem_toArray, List.getElem_cons_zero, List.getElem_cons_succ, Act.put, List.setIfInBounds_toArray, List.set_cons_zero, List.set_cons_succ])); (refine wpAnyH_ready (rs := [15]) (by kernel_rfl) (by simp) ?_; refine AllReadyH.cons rfl (fun K hK => ?_) AllReadyH.nil; go_simp; (refine hK.out _ _ (by exact (by exact ⟨((Chg.refl [] _).alloc _).cell hHeld.1 (by simp), ((Chg.refl [] _).alloc _).cell hHeld.2.1 (by simp), ((Chg.refl [] _).alloc _).cell hHeld.2.2.1 (by simp), ((Chg.refl [] _).alloc _).cell hHeld.2.2.2.1 (by simp), ((Chg.refl [] _).alloc _).cell hHeld.2.2.2.2.1 (by simp), ((Chg.refl [] _).alloc _).cell hHeld.2.2.2.2.2.1 (by simp), ((Chg.refl [] _).alloc _).cell hHeld.2.2.2.2.2.2.1 (by simp), ((Chg.refl [] _).alloc _).cell hHeld.2.2.2.2.2.2.2.1 (by simp), ((Chg.refl [] _).alloc _).cell hHeld.2.2.2.2.2.2.2.2.1 (by simp), ((Chg.refl [] _).alloc _).cell hHeld.2.2.2.2.2.2.2.2.2 (by simp)⟩)) (fun hHeld => ?_); clear hK K; (try simp only [List.getElem_toArray, List.getElem_cons_zero, List.getElem_cons_succ, Act.put, List.setIfInBounds_toArray, List.set_cons_zero, List.set_cons_succ]))))); rotate_left 1; (focus (go_simp; go_at_call 37; refine (HTG.out _ ((Chg.refl [] wz).drew)).mono ?_; rintro e w4 ⟨rfl, hc4⟩; have hz4 : Chg [] wz w4 := ((Chg.refl [] wz).drew).trans' hc4; have v1 := hz4.cell hX1 (by simp); have v1a := (fun o => (hz4.alloc o).cell hX1 (by simp)); (refine hK.out _ _ (by exact (by exact ⟨hc4.cell hHeld.1 (by simp), hc4.cell hHeld.2.1 (by simp), hc4.cell hHeld.2.2.1 (by simp), hc4.cell hHeld.2.2.2.1 (by simp), hc4.cell hHeld.2.2.2.2.1 (by simp), hc4.cell hHeld.2.2.2.2.2.1 (by simp), hc4.cell hHeld.2.2.2.2.2.2.1 (by simp), hc4.cell hHeld.2.2.2.2.2.2.2.1 (by simp), hc4.cell hHeld.2.2.2.2.2.2.2.2.1 (by simp), hc4.cell hHeld.2.2.2.2.2.2.2.2.2 (by simp)⟩)) (fun hHeld => ?_); clear hK K; (try simp only [List.getElem_toArray, List.getElem_cons_zero, List.getElem_cons_succ, Act.put, List.setIfInBounds_toArray, List.set_cons_zero, List.set_cons_succ])); (refine wpAnyH_take (i := 14) (v := ?_) rfl (by kernel_rfl) (by kernel_rfl) (by kernel_rfl) (fun _ _ _ h => h) (Or.inl ⟨by rfl, ?_⟩) (by assumption) ?_; rotate_left 1; (focus (intro w hSw; (try dsimp only at hSw); go_simp; (try with_reducible rfl))); (try simp only [List.getElem_toArray, List.getElem_cons_zero, List.getElem_cons_succ, Act.put, List.setIfInBounds_toArray, List.set_cons_zero, List.set_cons_succ])); (refine wpAnyH_ready (rs := [1, 15]) (by kernel_rfl) (by simp) ?_; refine AllReadyH.cons rfl (fun K hK => ?_) (AllReadyH.cons rfl (fun K hK => ?_) AllReadyH.nil)); (focus (go_simp; (refine hK.out _ _ (by exact hHeld) (fun hHeld => ?_); clear hK K; (try simp only [List.getElem_toArray, List.getElem_cons_zero, List.getElem_cons_succ, Act.put, List.setIfInBounds_toArray, List.set_cons_zero, List.set_cons_succ])); (refine wpAnyH_ready (rs := [15]) (by kernel_rfl) (by simp) ?_; refine AllReadyH.cons rfl (fun K hK => ?_) AllReadyH.nil; go_simp; (refine hK.out _ _ (by exact (by exact ⟨((Chg.refl [] _).alloc _).cell hHeld.1 (by simp), ((Chg.refl [] _).alloc _).cell hHeld.2.1 (by simp), ((Chg.refl [] _).alloc _).cell hHeld.2.2.1 (by simp), ((Chg.refl [] _).alloc _).cell hHeld.2.2.2.1 (by simp), ((Chg.refl [] _).alloc _).cell hHeld.2.2.2.2.1 (by simp), ((Chg.refl [] _).alloc _).cell hHeld.2.2.2.2.2.1 (by simp), ((Chg.refl [] _).alloc _).cell hHeld.2.2.2.2.2.2.1 (by simp), ((Chg.refl [] _).alloc _).cell hHeld.2.2.2.2.2.2.2.1 (by simp), ((Chg.refl [] _).alloc _).cell hHeld.2.2.2.2.2.2.2.2.1 (by simp), ((Chg.refl [] _).alloc _).cell hHeld.2.2.2.2.2.2.2.2.2 (by simp)⟩)) (fun hHeld => ?_); clear hK K; (try simp only [List.getElem_toArray, List.getElem_cons_zero, List.getElem_cons_succ, Act.put, List.setIfInBounds_toArray, List.set_cons_zero, List.set_cons_succ]))))); rotate_left 1; (focus (go_simp; (refine hK.out _ _ (by exact (by exact ⟨((Chg.refl [] _).alloc _).cell hHeld.1 (by simp), ((Chg.refl [] _).alloc _).cell hHeld.2.1 (by simp), ((Chg.refl [] _).alloc _).cell hHeld.2.2.1 (by simp), ((Chg.refl [] _).alloc _).cell hHeld.2.2.2.1 (by simp), ((Chg.refl [] _).alloc _).cell hHeld.2.2.2.2.1 (by simp), ((Chg.refl [] _).alloc _).cell hHeld.2.2.2.2.2.1 (by simp), ((Chg.refl [] _).alloc _).cell hHeld.2.2.2.2.2.2.1 (by simp), ((Chg.refl [] _).alloc _).cell hHeld.2.2.2.2.2.2.2.1 (by simp), ((Chg.refl [] _).alloc _).cell hHeld.2.2.2.2.2.2.2.2.1 (by simp), ((Chg.refl [] _).alloc _).cell hHeld.2.2.2.2.2.2.2.2.2 (by simp)⟩)) (fun hHeld => ?_); clear hK K; (try simp only [List.getElem_toArray, List.getElem_cons_zero, List.getElem_cons_succ, Act.put, List.setIfInBounds_toArray, List.set_cons_zero, List.set_cons_succ])); (refine wpAnyH_ready (rs := [1]) (by kernel_rfl) (by simp) ?_; refine AllReadyH.cons rfl (fun K hK => ?_) AllReadyH.nil; go_simp; (refine hK.out _ _ (by exact hHeld) (fun hHeld => ?_); clear hK K; (try simp only [List.getElem_toArray, List.getElem_cons_zero, List.getElem_cons_succ, Act.put, List.setIfInBounds_toArray, List.set_cons_zero, List.set_cons_succ]))))))); (all_goals ((refine wpAnyH_ready (rs := [16]) (by kernel_rfl) (by simp) ?_; refine AllReadyH.cons rfl (fun K hK => ?_) AllReadyH.nil; refine step_grew rfl _ _ 47 rfl elem_ins rfl (Row.keep (S := []) HR0.out (Chg.alloc hz4 _) (by simp)) rfl (View.struct _ [.int .i64 x.op, .int .i64 x.a, .int .i64 x.b, .int .i64 x.c, .int .i64 n] 64 rfl) (by simp [Value.oneCell']) (by unfold maxLen; omega) (by omega) (fun ac5 cc5 rc5 w5 hr5 hg5 => ?_); (refine hK.out _ _ (by exact (by have h5 := hg5.chg; have hn : wr.heap.size ∉ rc.toList := (fun hm => by have := HRL.out _ (by simpa using hm); omega); exact ⟨h5.cell hHeld.1 hn, h5.cell hHeld.2.1 hn, h5.cell hHeld.2.2.1 hn, h5.cell hHeld.2.2.2.1 hn, h5.cell hHeld.2.2.2.2.1 hn, h5.cell hHeld.2.2.2.2.2.1 hn, h5.cell hHeld.2.2.2.2.2.2.1 hn, h5.cell hHeld.2.2.2.2.2.2.2.1 hn, h5.cell hHeld.2.2.2.2.2.2.2.2.1 hn, h5.cell hHeld.2.2.2.2.2.2.2.2.2 hn⟩)) (fun hHeld => ?_); clear hK K; (try simp only [List.getElem_toArray, List.getElem_cons_zero, List.getElem_cons_succ, Act.put, List.setIfInBounds_toArray, List.set_cons_zero, List.set_cons_succ]))); (refine wpAnyH_take (i := 17) (v := ?_) rfl (by kernel_rfl) (by kernel_rfl) (by kernel_rfl) (fun _ _ _ h => h) (Or.inl ⟨by rfl, ?_⟩) (by assumption) ?_; rotate_left 1; (focus (intro w hSw; (try dsimp only at hSw); go_simp; (try with_reducible rfl))); (try simp only [List.getElem_toArray, List.getElem_cons_zero, List.getElem_cons_succ, Act.put, List.setIfInBounds_toArray, List.set_cons_zero, List.set_cons_succ])); (refine wpAnyH_ready (rs := [18]) (by kernel_rfl) (by simp) ?_; refine AllReadyH.cons rfl (fun K hK => ?_) AllReadyH.nil; go_simp; (have hx5 := hg5.chg.heap ((Chg.alloc hz4 _).heap (HMO.out.1.get (i := 2) rfl) (by simp)) (fun hm => HMO.out.1.ne (i := 2) (j := 0) rfl rfl (by omega) rfl (by simpa [irow, It.blk] using hm)); have p5 : w5.cell? ⟨w1.heap.size, 1, none⟩ = some (.slice ac c.length cc) := blk_cell hx5 1; have f5 := blk_free hx5 1; go_simp); (refine hK.out _ _ (by exact (by have h6 : ∀ v, Chg [w1.heap.size] w5 (w5.setCell ⟨w1.heap.size, 1, none⟩ v) := (fun v => (Chg.refl _ w5).setCell (p := ⟨w1.heap.size, 1, none⟩) (.inl (by simp)) v); exact ⟨(h6 _).cell hHeld.1 (by simp; omega), (h6 _).cell hHeld.2.1 (by simp; omega), (h6 _).cell hHeld.2.2.1 (by simp; omega), (h6 _).cell hHeld.2.2.2.1 (by simp; omega), (h6 _).cell hHeld.2.2.2.2.1 (by simp; omega), (h6 _).cell hHeld.2.2.2.2.2.1 (by simp; omega), (h6 _).cell hHeld.2.2.2.2.2.2.1 (by simp; omega), (h6 _).cell hHeld.2.2.2.2.2.2.2.1 (by simp; omega), (h6 _).cell hHeld.2.2.2.2.2.2.2.2.1 (by simp; omega), (h6 _).cell hHeld.2.2.2.2.2.2.2.2.2 (by simp; omega)⟩)) (fun hHeld => ?_); clear hK K; (try simp only [List.getElem_toArray, List.getElem_cons_zero, List.getElem_cons_succ, Act.put, List.setIfInBounds_toArray, List.set_cons_zero, List.set_cons_succ]))); refine wpAnyH_done (by kernel_rfl) ?_ _)))
                all_goals
                  have hrcb : ∀ g, g ∈ rc.toList → g ≠ b := fun g hm e => by
                    have h1 := HMO.out.1.lo (irow ac cc rc c) (by simp) g (by simpa [irow, It.blk] using hm)
                    have h2 := blk_lt HB.out.blk
                    omega
                  have hb5 := hg5.chg.heap ((Chg.alloc hz4 _).heap HMO.out.2.1.blk (by simp)) (fun hm => hrcb b hm rfl)
                  have hp5 := HMO.out.1.grow 0 rfl (Chg.alloc hz4 _) hr5 hg5.chg hg5.fresh rfl
                  have hp6 := hp5.put 2 rfl 1 (.slice ac5 (c.length + 1) cc5) rfl
                  obtain ⟨w6, hw6⟩ : ∃ w6, w5.setCell ⟨w1.heap.size, 1, none⟩ (.slice ac5 (c.length + 1) cc5) = w6 := ⟨_, rfl⟩
                  rw [hw6] at hp6 hHeld ⊢
                  have hb6 : w6.heap[b]? = some (.cells #[.map (some bk), .map (some bc), .int .i64 (all + 1 : Nat)] 90 (0, 0)) := by
                    rw [← hw6]
                    exact (blk_set_other (by have := blk_lt HB.out.blk; omega) _ _).trans hb5
                  have s6 := hHeld.2.2.2.2.2.2.1
                  have s7 := hHeld.2.2.2.2.2.2.2.1
                  have e2 : w6.cell? ⟨w1.heap.size, 2, none⟩ = some (.slice ap ps.length cp) := hp6.cell (i := 2) rfl 2
                  have hrowp := (hp6.rowAt (i := 1) rfl).keep ((Chg.refl [] w6).alloc (.cells #[.int .i64 x.p1, .int .i64 x.p2] 35)) (by simp)
                  have hvp := View.struct (k := 2) w6 [.int .i64 x.p1, .int .i64 x.p2] 35 rfl
                  have HP6 := hid hp6
                  have HB6 := hid hb6
                  clear hw6 hp5 hp6 hb5 hb6 hr5 hg5 hc4 hz4 v1 v1a hHeld hrcb hX1 z0 z1 z2 z3 z4 z5 z6 z7 z8 z9 b2z
                  go_wp2_with (at_builtin; refine wpList_grew rfl _ _ 48 rfl elem_plc rfl hrowp rfl hvp (by simp [Value.oneCell']) (by unfold maxLen; omega) (by omega) (fun ap7 cp7 rp7 w7 hr7 hg7 => halt (fun X hX => ?_)))
                  rw [hX.out]; clear hX
                  have hp7 := HP6.out.grow 1 rfl ((Chg.refl [] w6).alloc _) hr7 hg7.chg hg7.fresh rfl
                  have e7 : w7.cell? ⟨w1.heap.size, 2, none⟩ = some (.slice ap ps.length cp) := hp7.cell (i := 2) rfl 2
                  have f7 := hp7.free (i := 2) rfl 2
                  have hp8 := hp7.put 2 rfl 2 (.slice ap7 (ps.length + 1) cp7) rfl
                  have hb7 := hg7.chg.heap (((Chg.refl [] w6).alloc _).heap HB6.out (by simp)) (fun hm => by
                    have h1 := HP6.out.lo (prow ap cp rp ps) (by simp [prow]) b (by simpa [prow, It.blk] using hm)
                    have h2 := blk_lt HB.out.blk
                    omega)
                  have hb8 : (w7.setCell ⟨w1.heap.size, 2, none⟩ (.slice ap7 (ps.length + 1) cp7)).heap[b]? = some (.cells #[.map (some bk), .map (some bc), .int .i64 (all + 1 : Nat)] 90 (0, 0)) := (blk_set_other (by have := blk_lt HB.out.blk; omega) _ _).trans hb7
                  have hne := HB.out.ne
                  have hts : TS w (w7.setCell ⟨w1.heap.size, 2, none⟩ (.slice ap7 (ps.length + 1) cp7)) b bk bc m w1.heap.size nm st (all + 1) (c ++ [⟨x.op, x.a, x.b, x.c, n⟩]) (ps ++ [⟨x.p1, x.p2⟩]) ac5 cc5 rc5 ap7 cp7 rp7 es ck := by
                    refine ⟨?_, ⟨hb8, HB.out.kn.keep hp8.chg (by simp; omega), HB.out.ct.keep hp8.chg (by simp; omega), hne⟩, hAA, by simp; omega, by have := HMP.out; simp; omega⟩
                    simpa [irow, prow, insC, plcC] using hp8
                  have HTS8 := hid hts
                  clear hrowp hvp hr7 hg7 hp7 hp8 hb7 hb8 hts s6 s7 e2
                  go_wp2
                  go_roundg (gk - 1)
                  case measure => omega
                  case rel => exact ⟨all + 1, _, _, ac5, cc5, rc5, ap7, cp7, rp7, i + 1, HTS8, by omega, by go_num, HD2⟩
      · have hnil : items.drop i = [] := List.drop_eq_nil_of_le (by omega)
        have hG : G = .ok (all, c, ps) := by
          rw [← HE.out, hnil]
          rfl
        have hD2 : D = .ok (all, ⟨nm, c, ps⟩) := by
          rw [← HDG.out, hG]
        have HD2 := hid hD2
        have q0 : wr.cell? ⟨w1.heap.size, 0, none⟩ = some (.string nm) := HT.out.hp.cell (i := 2) rfl 0
        have q1 : wr.cell? ⟨w1.heap.size, 1, none⟩ = some (.slice ac c.length cc) := HT.out.hp.cell (i := 2) rfl 1
        have q2 : wr.cell? ⟨w1.heap.size, 2, none⟩ = some (.slice ap ps.length cp) := HT.out.hp.cell (i := 2) rfl 2
        have rb := HT.out.hp.get (i := 4) rfl
        have r0 : wr.cell? ⟨w.heap.size + 1, 0, none⟩ = some (.string ⟨#[]⟩) := blk_cell rb 0
        have r1 : wr.cell? ⟨w.heap.size + 1, 1, none⟩ = some (.slice none 0 0) := blk_cell rb 1
        have r2 : wr.cell? ⟨w.heap.size + 1, 2, none⟩ = some (.slice none 0 0) := blk_cell rb 2
        have rf := fun i => blk_free rb i
        clear hnil hG hD2 rb
        go_wp2
        have hpf := ((HT.out.hp.put 4 rfl 0 (.string nm) rfl).put 4 rfl 1 (.slice ac c.length cc) rfl).put 4 rfl 2 (.slice ap ps.length cp) rfl
        have hcf : Chg [w.heap.size + 1] wr (((wr.setCell ⟨w.heap.size + 1, 0, none⟩ (.string nm)).setCell ⟨w.heap.size + 1, 1, none⟩ (.slice ac c.length cc)).setCell ⟨w.heap.size + 1, 2, none⟩ (.slice ap ps.length cp)) := (((Chg.refl [w.heap.size + 1] wr).setCell (p := ⟨w.heap.size + 1, 0, none⟩) (.inl (by simp)) _).setCell (p := ⟨w.heap.size + 1, 1, none⟩) (.inl (by simp)) _).setCell (p := ⟨w.heap.size + 1, 2, none⟩) (.inl (by simp)) _
        obtain ⟨wf, hwf⟩ : ∃ wf, (((wr.setCell ⟨w.heap.size + 1, 0, none⟩ (.string nm)).setCell ⟨w.heap.size + 1, 1, none⟩ (.slice ac c.length cc)).setCell ⟨w.heap.size + 1, 2, none⟩ (.slice ap ps.length cp)) = wf := ⟨_, rfl⟩
        rw [hwf] at hpf hcf ⊢
        have hbf := hpf.get (i := 4) rfl
        have u0 : wf.cell? ⟨w.heap.size + 1, 0, none⟩ = some (.string nm) := blk_cell hbf 0
        have u1 : wf.cell? ⟨w.heap.size + 1, 1, none⟩ = some (.slice ac c.length cc) := blk_cell hbf 1
        have u2 : wf.cell? ⟨w.heap.size + 1, 2, none⟩ = some (.slice ap ps.length cp) := blk_cell hbf 2
        have k1 := HB.out.kn.lt
        have k2 := HB.out.ct.lt
        have k3 := blk_lt HB.out.blk
        exact bodyPost_ret (v := .agg #[.string nm, .slice ac c.length cc, .slice ap ps.length cp]) (by simp [results, Tryd.results28, go_sem, u0, u1, u2]) rfl (.inr ⟨all, ⟨nm, c, ps⟩, ac, cc, rc, ap, cp, rp, HD2.out, rfl, HT.out.bs.keep hcf (by simp; omega) (by simp; omega) (by simp; omega), hpf.sub (List.Sublist.cons_cons _ (List.Sublist.cons_cons _ (List.nil_sublist _))), HT.out.ma⟩)
end
end Go.Proofs.YtaknmhipaifdkaaDoor
