/- Walks of the parser: an instruction. -/
import Derived.Test.YtmahcabidggmeaaGreatDoorVph
import Derived.Lib.OthersKept
set_option linter.unusedVariables false
set_option linter.unusedSectionVars false
set_option linter.unusedSimpArgs false
namespace Go.AB
open Go.RowKit
theorem key_i32 {P : Program} {k : TypeId} (h : P.underlying k = some (.int .i32)) : KeyOk P k Int (Value.int .i32) := by
  refine ⟨⟨_, h, fun a b => ?_⟩, fun em a w => ?_, fun a => ?_⟩
  · simp only [Instr.sameNow, if_true]
    by_cases hab : a = b
    · subst hab; simp
    · simp [hab]
  · have h2 : ∀ d, (Instr.checkKey em (d + 1) k (.int .i32 a)).run P w = .ok () w := fun d => by simp [Instr.checkKey, run_underlying h]
    exact h2 9999
  · have h2 : ∀ d, Instr.sameBits (d + 1) (.int .i32 a) (.int .i32 a) = true := fun d => by simp [Instr.sameBits]
    exact h2 9999
section
variable {κ : Type} [DecidableEq κ] {P : Program} {k : TypeId} {mk : κ → Value}
/-- An entry of a map that is written out, at the operation. -/
theorem wpList_mapI {w : World} {ops : Array Oper} {rest : List Oper} {o : Oper} {a : Act} {Q : Exit → Act → World → Prop} (hgd : o.guard = none) (m x v : Operand) (t : TypeId) (hop : o.op = Op.insert t m x v)
    (K : KeyOk P k κ mk) {e : TypeId} (ht : P.underlying t = some (.map k e)) {b : Nat} {f : κ → Option Value} (hm : a.eval m = .map (some b)) (h : MapF w b mk f) (c : κ) {val : Value} (hx : a.eval x = mk c) (hv : a.eval v = val)
    (hK : ∀ w', MapF w' b mk (fun x => if x = c then some val else f x) → Chg [b] w w' → wpList P ops Q rest (a.put o.dst undef) w') : wpList P ops Q (o :: rest) a w := by
  obtain ⟨w', hrun, h1, h2⟩ := h.update K ht c val
  refine wpList_plain hgd fun K' hK' => ?_
  unfold Oper.wp
  simp [execOp, hop, hm, hx, hv, hrun, Result.andThen]
  exact hK' _ _ (hK w' h1 h2)
theorem iter_chg (w : World) (k : Nat) (s : ByteArray) (pos : Nat) : Chg [k] w (w.iterAt k s pos) :=
  ⟨rfl, rfl, rfl, by rw [Lib.iterAt_size]; exact Nat.le_refl _, fun i _ hi => Lib.iterAt_other w k i s pos (by simpa using hi)⟩
theorem t10_keep {S : List Nat} {a b : World} {p : Nat} {v0 v1 v2 v3 v4 v5 v6 v7 v8 v9 : Value} (hc : Chg S a b) (hS : p ∉ S) (h : a.cell? ⟨p, 0, none⟩ = some v0 ∧ a.cell? ⟨p, 1, none⟩ = some v1 ∧ a.cell? ⟨p, 2, none⟩ = some v2 ∧ a.cell? ⟨p, 3, none⟩ = some v3 ∧ a.cell? ⟨p, 4, none⟩ = some v4 ∧ a.cell? ⟨p, 5, none⟩ = some v5 ∧ a.cell? ⟨p, 6, none⟩ = some v6 ∧ a.cell? ⟨p, 7, none⟩ = some v7 ∧ a.cell? ⟨p, 8, none⟩ = some v8 ∧ a.cell? ⟨p, 9, none⟩ = some v9) :
    b.cell? ⟨p, 0, none⟩ = some v0 ∧ b.cell? ⟨p, 1, none⟩ = some v1 ∧ b.cell? ⟨p, 2, none⟩ = some v2 ∧ b.cell? ⟨p, 3, none⟩ = some v3 ∧ b.cell? ⟨p, 4, none⟩ = some v4 ∧ b.cell? ⟨p, 5, none⟩ = some v5 ∧ b.cell? ⟨p, 6, none⟩ = some v6 ∧ b.cell? ⟨p, 7, none⟩ = some v7 ∧ b.cell? ⟨p, 8, none⟩ = some v8 ∧ b.cell? ⟨p, 9, none⟩ = some v9 := by
  obtain ⟨h0, h1, h2, h3, h4, h5, h6, h7, h8, h9⟩ := h
  exact ⟨hc.cell h0 hS, hc.cell h1 hS, hc.cell h2 hS, hc.cell h3 hS, hc.cell h4 hS, hc.cell h5 hS, hc.cell h6 hS, hc.cell h7 hS, hc.cell h8 hS, hc.cell h9 hS⟩
theorem opers_nil {first : Bool} {k : Nat} {ts : List Tok} {x : ItD} : opersD [] first k ts x = .ok (ts, x) := rfl
def commaD (first : Bool) (ts : List Tok) : Except Flt (List Tok) := if first = true then .ok ts else (takeK 3 ts).map Prod.snd
theorem opers_cons {first : Bool} {k : Nat} {ts : List Tok} {x : ItD} {c : UInt8} {f : List UInt8} : opersD (c :: f) first k ts x = match commaD first ts with
    | .error e => .error e
    | .ok ts => match operD c k ts x with
      | .error e => .error e
      | .ok (ts, k, x) => opersD f false k ts x := rfl
theorem opers_bad {first : Bool} {k : Nat} {ts : List Tok} {x : ItD} {c : UInt8} {f : List UInt8} {e : Flt} (h : commaD first ts = .error e) : opersD (c :: f) first k ts x = .error e := by rw [opers_cons, h]
theorem opers_bad2 {first : Bool} {k : Nat} {ts ts2 : List Tok} {x : ItD} {c : UInt8} {f : List UInt8} {e : Flt} (h : commaD first ts = .ok ts2) (h2 : operD c k ts2 x = .error e) : opersD (c :: f) first k ts x = .error e := by rw [opers_cons, h]; simp only; rw [h2]
theorem opers_ok' {first : Bool} {k k2 : Nat} {ts ts2 ts3 : List Tok} {x y : ItD} {c : UInt8} {f : List UInt8} (h : commaD first ts = .ok ts2) (h2 : operD c k ts2 x = .ok (ts3, k2, y)) : opersD (c :: f) first k ts x = opersD f false k2 ts3 y := by rw [opers_cons, h]; simp only; rw [h2]
theorem comma_first (ts : List Tok) : commaD true ts = .ok ts := rfl
theorem comma_ok {t : Tok} {r : List Tok} (h : t.kind = 3) : commaD false (t :: r) = .ok r := by
  unfold commaD
  rw [if_neg (by simp), show takeK 3 (t :: r) = if t.kind = 3 then .ok (t, r) else .error (fltAt 82 t) from rfl, if_pos h]
  rfl
theorem comma_bad {t : Tok} {r : List Tok} (h : t.kind ≠ 3) : commaD false (t :: r) = .error (fltAt 82 t) := by
  unfold commaD
  rw [if_neg (by simp), show takeK 3 (t :: r) = if t.kind = 3 then .ok (t, r) else .error (fltAt 82 t) from rfl, if_neg h]
  rfl
theorem form_chars : ∀ op : Nat, op < 21 → ((formAt op).all fun c => decide (c = 114) || decide (c = 110) || decide (c = 120)) = true ∧ (formAt op).count 114 ≤ 3 := by decide +kernel
theorem form_char {op : Nat} (h : op < 21) {c : UInt8} (hc : c ∈ formAt op) : c = 114 ∨ c = 110 ∨ c = 120 := by
  have h2 := List.all_eq_true.1 (form_chars op h).1 c hc
  simp only [Bool.or_eq_true, decide_eq_true_eq] at h2
  rcases h2 with (h2 | h2) | h2
  · exact .inl h2
  · exact .inr (.inl h2)
  · exact .inr (.inr h2)
def MapE (mk : κ → Value) (es : Array MapEntry) (f : κ → Option Value) : Prop := ∃ l : List (κ × Value), es.toList.map (fun e => (e.key, e.val)) = l.map (fun p => (mk p.1, p.2)) ∧ ∀ a, lookK l a = f a
theorem MapF.ent {w : World} {b : Nat} {f : κ → Option Value} (h : MapF w b mk f) : ∃ es ck, w.heap[b]? = some (.map es ck) ∧ MapE mk es f := by
  obtain ⟨es, c, h1, h2⟩ := h
  exact ⟨es, c, h1, h2⟩
theorem MapE.map {w : World} {b ck : Nat} {es : Array MapEntry} {f : κ → Option Value} (h : MapE mk es f) (hb : w.heap[b]? = some (.map es ck)) : MapF w b mk f := ⟨es, ck, hb, h⟩
end
end Go.AB
namespace Go.Proofs.YtmahcabidggmeaaGreatDoor
open Go.RowKit Go.AB
set_option linter.unusedSimpArgs false
set_option linter.unusedVariables false
set_option linter.unusedSectionVars false
theorem key_rune : KeyOk Tryz.prog 21 Int (Value.int .i32) := key_i32 Tryz.underlying21

section
variable {w0 w : World} {b : Nat} {t : Tok} {ts r : List Tok} {ds : List DcD} {q : RQ} {m : Nat} {X : List It}
def InsP (w0 : World) (b : Nat) (ds : List DcD) (m : Nat) (X : List It) (x : Except Flt (List Tok × List BkD)) (e : Ending) (w' : World) : Prop :=
  OutP (badP w0) x (fun p e w' => e = .returned (.tuple #[]) ∧ ∃ q' : RQ, q'.bks = p.2 ∧ RS w0 w' b p.1 ds q' m X) e w'
theorem InsP.bad {x : Except Flt (List Tok × List BkD)} {f : Flt} {e : Ending} {w' : World} (hx : x = .error f) (h : badP w0 f e w') : InsP w0 b ds m X x e w' := by subst hx; exact h
theorem InsP.good {x : Except Flt (List Tok × List BkD)} {bs : List BkD} {w' : World} (hx : x = .ok (ts, bs)) (hb : q.bks = bs) (h : RS w0 w' b ts ds q m X) : InsP w0 b ds m X x (.returned (.tuple #[])) w' := by subst hx; exact ⟨rfl, q, hb, h⟩
theorem instrD_cons (op : Nat) (t : Tok) (r : List Tok) (bs : List BkD) : instrD op (t :: r) bs = if bs = [] then .error (fltAt 81 t) else match opersD (formAt op) true 0 r ⟨op, 0, 0, 0, 0, ⟨#[]⟩, t.line, t.col, 0, 0⟩ with
    | .error e => .error e
    | .ok (ts, x) => .ok (ts, putLast x bs) := rfl
theorem zero_fn (W : World) : (zeroValue 1).run Tryz.prog W = .ok .nilFunc W := by kernel_rfl
theorem oper_rk {PX PR PA PB k : Nat} {rv : Value} {x : ItD} (h : RS w0 w b (t :: r) ds q m (insX PX PR PA PB b rv x ++ X)) (hv : VarsP w0) (hk : k < 3) (hrv : RvOk PA k rv) : Calls Tryz.prog 73 #[.pointer (some ⟨PB, 0, none⟩), .pointer (some ⟨PR, 0, none⟩)] w (OperP w0 b ds q m PX PR PA PB X (operD 114 k (t :: r) x)) := by
  have h2 := hrv hk
  subst h2
  have : k = 0 ∨ k = 1 ∨ k = 2 := by omega
  rcases this with rfl | rfl | rfl
  · exact oper_r0 h hv
  · exact oper_r1 h hv
  · exact oper_r2 h hv
theorem oper_k114 {k k2 : Nat} {ts3 : List Tok} {x y : ItD} (h : operD 114 k (t :: r) x = .ok (ts3, k2, y)) : k2 = k + 1 := by
  rw [oper_r] at h
  split at h
  · cases h; rfl
  · cases h
theorem oper_k110 {k k2 : Nat} {ts3 : List Tok} {x y : ItD} (h : operD 110 k (t :: r) x = .ok (ts3, k2, y)) : k2 = k := by
  rw [oper_n] at h
  split at h
  · cases h; rfl
  · cases h
theorem oper_k120 {k k2 : Nat} {ts3 : List Tok} {x y : ItD} (h : operD 120 k (t :: r) x = .ok (ts3, k2, y)) : k2 = k := by
  rw [oper_x] at h
  split at h
  · cases h
  · cases h; rfl
theorem RS.permX {X' : List It} (h : RS w0 w b ts ds q m X) (hp : X.Perm X') : RS w0 w b ts ds q m X' := ⟨h.hp.perm (hp.append_left _), h.tok, h.e7, h.ld, h.lb, h.li, h.sm, h.tx⟩
/-- The Item and its registers are laid. -/
theorem ins_laid {w2 : World} {PB : Nat} {op : Int} {l c : Int} {PBo : It} (h2 : RS w0 w2 b ts ds q m (PBo :: X)) :
    RS w0 (((w2.alloc (.cells #[.int .i64 op, .int .i64 0, .int .i64 0, .int .i64 0, .int .i64 0, .string ⟨#[]⟩, .int .i64 l, .int .i64 c, .int .i64 0, .int .i64 0] 53)).alloc (.cells #[.pointer (some ⟨w2.heap.size, 1, none⟩), .pointer (some ⟨w2.heap.size, 2, none⟩), .pointer (some ⟨w2.heap.size, 3, none⟩)] 128)).alloc (.cells #[.slice (some ⟨w2.heap.size + 1, 0, none⟩) 3 3] 129)) b ts ds q m
      (.box w2.heap.size (.cells #[.int .i64 op, .int .i64 0, .int .i64 0, .int .i64 0, .int .i64 0, .string ⟨#[]⟩, .int .i64 l, .int .i64 c, .int .i64 0, .int .i64 0] 53 (0, 0)) :: .box (w2.heap.size + 1 + 1) (.cells #[.slice (some ⟨w2.heap.size + 1, 0, none⟩) 3 3] 129 (0, 0)) :: .box (w2.heap.size + 1) (.cells #[.pointer (some ⟨w2.heap.size, 1, none⟩), .pointer (some ⟨w2.heap.size, 2, none⟩), .pointer (some ⟨w2.heap.size, 3, none⟩)] 128 (0, 0)) :: PBo :: X) := by
  have h3 := ((h2.box (.cells #[.int .i64 op, .int .i64 0, .int .i64 0, .int .i64 0, .int .i64 0, .string ⟨#[]⟩, .int .i64 l, .int .i64 c, .int .i64 0, .int .i64 0] 53)).box (.cells #[.pointer (some ⟨w2.heap.size, 1, none⟩), .pointer (some ⟨w2.heap.size, 2, none⟩), .pointer (some ⟨w2.heap.size, 3, none⟩)] 128)).box (.cells #[.slice (some ⟨w2.heap.size + 1, 0, none⟩) 3 3] 129)
  have e1 : ∀ (W : World) O, (W.alloc O).heap.size = W.heap.size + 1 := fun W O => by simp
  rw [e1, e1] at h3
  refine h3.permX ?_
  exact List.perm_middle (l₁ := [_, _])
set_option maxHeartbeats 16000000 in
set_option maxRecDepth 100000 in
theorem instr_calls (h : RS w0 w b (t :: r) ds q m X) (hv : VarsP w0) (op : Nat) (h1 : 1 ≤ op) (h20 : op ≤ 20) (hk : t.kind = 1) : Calls Tryz.prog 45 #[.pointer (some ⟨b, 0, none⟩), .int .i64 op] w (InsP w0 b ds m X (instrD op (t :: r) q.bks)) := by
  obtain ⟨G, hG⟩ : ∃ G, instrD op (t :: r) q.bks = G := ⟨_, rfl⟩
  rw [hG]
  rw [instrD_cons] at hG
  have HV := hid hv
  have hz := h.box (.cells #[.pointer (some ⟨b, 0, none⟩)] 67)
  have HS := hid fun W (hc : Chg [] (w.alloc (.cells #[.pointer (some ⟨b, 0, none⟩)] 67)) W) => hz.same hc
  have hc0 := Chg.refl [] (w.alloc (.cells #[.pointer (some ⟨b, 0, none⟩)] 67))
  by_cases hb : q.bks = []
  · rw [if_pos hb] at hG
    have hqb : q.bs = [] := List.map_eq_nil_iff.1 hb
    have HB := hid (block_none hz hqb)
    have HG := hid hG
    clear hG hb hqb hz h hv
    go_enter Tryz.func45, Tryz.ntmps45
    go_wp2_with (go_at_call 71; refine HB.out.mono ?_; rintro e w1 ⟨rfl, hc1⟩)
    exact ⟨rfl, InsP.bad HG.out.symm ⟨rfl, hc1⟩⟩
  · rw [if_neg hb] at hG
    obtain ⟨init, x, hq⟩ := RS.snoc q hb
    obtain ⟨g, hg, _⟩ := h.last hq
    have HB := hid fun W (hc : Chg [] _ W) => block_some (HS.out W hc) hq hg
    have HG := hid hG
    have HK := hid (And.intro hk (And.intro h1 h20))
    have HM := hid h.sm
    have HQ := hid (And.intro hq hg)
    have hf3 := field_place t
    clear hG hb hq hg hz h hv hk h1 h20
    go_enter Tryz.func45, Tryz.ntmps45
    go_upto_region 4 with (first
      | (go_at_call 71; refine (HB.out _ hc0).mono ?_; rintro e w1 ⟨rfl, hc1⟩; have hB1 : w1.cell? ⟨w.heap.size, 0, none⟩ = some (.pointer (some ⟨b, 0, none⟩)) := blk_cell ((HS.out _ hc1).getX (j := 0) rfl) 0)
      | (go_at_call 22; refine (take_ok (HS.out _ hc1) 1 (by have := HK.out; omega) (by have := HK.out; omega)).mono ?_; rintro e w2 ⟨rfl, h2, hm2⟩))
    have h3 := ins_laid (op := op) (l := t.line) (c := t.col) h2 (PB := 0)
    have hpx := h3.getX (j := 0) rfl
    generalize (((w2.alloc (.cells #[.int .i64 op, .int .i64 0, .int .i64 0, .int .i64 0, .int .i64 0, .string ⟨#[]⟩, .int .i64 t.line, .int .i64 t.col, .int .i64 0, .int .i64 0] 53)).alloc (.cells #[.pointer (some ⟨w2.heap.size, 1, none⟩), .pointer (some ⟨w2.heap.size, 2, none⟩), .pointer (some ⟨w2.heap.size, 3, none⟩)] 128)).alloc (.cells #[.slice (some ⟨w2.heap.size + 1, 0, none⟩) 3 3] 129)) = w3 at h3 hpx ⊢
    generalize w2.heap.size + 1 + 1 = PR at h3 ⊢
    generalize w2.heap.size + 1 = PA at h3 ⊢
    generalize w2.heap.size = PX at h3 hpx ⊢
    generalize w.heap.size = PB at h3 ⊢
    have HC3 := hid (Chg.refl [] w3)
    have HM2 := hid hm2
    obtain ⟨PM, hPM⟩ : ∃ PM, w3.heap.size = PM := ⟨_, rfl⟩
    have h4 := h3.box (.map #[] 0)
    have hm0 : MapF (w3.alloc (.map #[] 0)) PM (Value.int .i32) (fun _ => none) := by rw [← hPM]; exact MapF.made _ _
    have hmk : (Instr.makeMap 130 none).run Tryz.prog w3 = .ok (.map (some PM)) (w3.alloc (.map #[] 0)) := by rw [← hPM]; exact run_makeMap _ _
    rw [hPM] at h4
    have H4 := hid h4
    clear h3 h4 hpx h2 hc1 hB1 hm2 HS HB hc0 hPM
    go_wp2_with (first
      | (refine wpList_mapI rfl _ _ _ 130 rfl key_rune Tryz.underlying130 rfl hm0 114 (val := .func (.func 73) #[] #[.pointer (some ⟨PB, 0, none⟩), .pointer (some ⟨PR, 0, none⟩)]) rfl rfl (fun w5 hm5 hc5 => ?_))
      | (refine wpList_mapI rfl _ _ _ 130 rfl key_rune Tryz.underlying130 rfl hm5 110 (val := .func (.func 75) #[] #[.pointer (some ⟨PB, 0, none⟩), .pointer (some ⟨PX, 0, none⟩)]) rfl rfl (fun w6 hm6 hc6 => ?_))
      | (refine wpList_mapI rfl _ _ _ 130 rfl key_rune Tryz.underlying130 rfl hm6 120 (val := .func (.func 76) #[] #[.pointer (some ⟨PB, 0, none⟩), .pointer (some ⟨PX, 0, none⟩)]) rfl rfl (fun w7 hm7 hc7 => ?_))
      | (go_at_call 72; refine (form_calls _ _).mono ?_; rintro e w8 ⟨rfl, hc8⟩))
    obtain ⟨es, ck, hbm, hes⟩ := hm7.ent
    have h7 := H4.out.setX (j := 0) rfl (.box PM (.map es ck)) ((hc5.trans' hc6).trans' hc7) (fun g hg => by simp only [List.mem_singleton] at hg; subst hg; rfl) hbm (fun g hg => .inl hg) rfl
    have h9 := (h7.same hc8).box (.stringIter (bA (formAt op)) 0)
    obtain ⟨F, hF⟩ : ∃ F, formAt op = F := ⟨_, rfl⟩
    have HFC : Hid ((∀ c ∈ F, c = 114 ∨ c = 110 ∨ c = 120) ∧ F.count 114 ≤ 3) := hid (by
      rw [← hF]
      have := HK.out
      exact ⟨fun c hc => form_char (by omega) hc, (form_chars op (by omega)).2⟩)
    have hHG := HG.out
    rw [hF] at hHG h9 ⊢
    obtain ⟨D, hD⟩ : ∃ D, opersD F true 0 r ⟨op, 0, 0, 0, 0, ⟨#[]⟩, t.line, t.col, 0, 0⟩ = D := ⟨_, rfl⟩
    rw [hD] at hHG
    have HGD := hid hHG
    have HD := hid hD
    have H9 := hid (h9.permX (List.perm_append_comm_assoc [_, _] [_, _, _, _] X))
    have HES := hid hes
    generalize w8.heap.size = IB at H9 ⊢
    have HLK114 : Hid (∀ W : World, W.heap[PM]? = some (.map es ck) → (Instr.lookup 130 (.map (some PM)) (.int .i32 114) false).run Tryz.prog W = .ok (.func (.func 73) #[] #[.pointer (some ⟨PB, 0, none⟩), .pointer (some ⟨PR, 0, none⟩)]) W) := hid (fun W hW => by
      have h := (hes.map hW).lookup key_rune Tryz.underlying130 (zero_fn W) (114 : Int) false
      simpa using h)
    have HLK110 : Hid (∀ W : World, W.heap[PM]? = some (.map es ck) → (Instr.lookup 130 (.map (some PM)) (.int .i32 110) false).run Tryz.prog W = .ok (.func (.func 75) #[] #[.pointer (some ⟨PB, 0, none⟩), .pointer (some ⟨PX, 0, none⟩)]) W) := hid (fun W hW => by
      have h := (hes.map hW).lookup key_rune Tryz.underlying130 (zero_fn W) (110 : Int) false
      simpa using h)
    have HLK120 : Hid (∀ W : World, W.heap[PM]? = some (.map es ck) → (Instr.lookup 130 (.map (some PM)) (.int .i32 120) false).run Tryz.prog W = .ok (.func (.func 76) #[] #[.pointer (some ⟨PB, 0, none⟩), .pointer (some ⟨PX, 0, none⟩)]) W) := hid (fun W hW => by
      have h := (hes.map hW).lookup key_rune Tryz.underlying130 (zero_fn W) (120 : Int) false
      simpa using h)
    clear h7 h9 hHG hD hF hbm hes hm0 hm5 hm6 hm7 hc5 hc6 hc7 hc8 HG H4 hmk HC3
    go_loopg [] F.length (fun gk wr => ∃ (pos k : Nat) (ts' : List Tok) (q' : RQ) (x' : ItD) (rv : Value), Hid (gk + pos = F.length) ∧
      Hid (RvOk PA k rv ∧ k + (F.drop pos).count 114 ≤ 3 ∧ opersD (F.drop pos) (decide (pos = 0)) k ts' x' = D ∧ q'.bs = q.bs ∧ q'.r1 = q.r1) ∧
      Hid (RS w0 wr b ts' ds q' (m - 1) (insX PX PR PA PB b rv x' ++ ([.box IB (.stringIter (bA F) pos), .box PM (.map es ck)] ++ X))))
    case atStart => exact ⟨0, 0, r, q.next, _, _, hid (by omega), hid ⟨fun _ => rfl, by rw [List.drop_zero, Nat.zero_add]; exact HFC.out.2, HD.out, rfl, rfl⟩, H9⟩
    case round =>
      obtain ⟨pos, k, ts', q', x', rv, HGK, HI, HR⟩ := hrel
      have hib : wr.heap[IB]? = some (.stringIter (bA F) pos) := HR.out.getX (j := 4) rfl
      by_cases hlt : pos < F.length
      · obtain ⟨c, hc⟩ : ∃ c, F[pos] = c := ⟨_, rfl⟩
        have hcc := HFC.out.1 c (by rw [← hc]; exact List.getElem_mem _)
        have hnx := fun ty => Lib.run_next_ascii_at (P := Tryz.prog) wr IB (bA F) pos ty hib (by rw [bA_size]; exact hlt) (by
          show F[pos].toNat < 128
          rw [hc]
          rcases hcc with rfl | rfl | rfl <;> decide)
        have hcv : ((bA F)[pos]'(by rw [bA_size]; exact hlt)) = c := hc
        rw [hcv] at hnx
        have h2 := HR.out.setX (j := 4) rfl (.box IB (.stringIter (bA F) (pos + 1))) (iter_chg wr IB (bA F) (pos + 1)) (fun g hg => by simp only [List.mem_singleton] at hg; subst hg; rfl) (Lib.iterAt_heap _ _ _ _ _ hib) (fun g hg => .inl hg) rfl
        generalize wr.iterAt IB (bA F) (pos + 1) = wn at h2 hnx
        have HN := hid h2
        have hbn : wn.cell? ⟨PB, 0, none⟩ = some (.pointer (some ⟨b, 0, none⟩)) := blk_cell (h2.getX (j := 3) rfl) 0
        clear h2 hib hcv
        obtain ⟨cn, hcn⟩ : ∃ cn : Int, (c.toNat : Int) = cn := ⟨_, rfl⟩
        rw [hcn] at hnx
        have HDR : Hid (F.drop pos = c :: F.drop (pos + 1)) := hid (by rw [List.drop_eq_getElem_cons hlt, hc])
        have HCN := hid hcn
        have HCC := hid hcc
        clear hc hcn hcc
        go_upto_if 40 with fail
        go_cut [42] from 39 to 42 (fun _ wx => Hid (∃ (ts2 : List Tok) (q2 : RQ), (commaD (decide (pos = 0)) ts' = .ok ts2 ∧ q2.bs = q.bs ∧ q2.r1 = q.r1) ∧ RS w0 wx b ts2 ds q2 (m - 1) (insX PX PR PA PB b rv x' ++ ([.box IB (.stringIter (bA F) (pos + 1)), .box PM (.map es ck)] ++ X))))
        case first =>
          by_cases hp0 : pos = 0
          · subst hp0
            go_wp2_with fail
            go_meet
            exact hid ⟨ts', q', ⟨rfl, HI.out.2.2.2⟩, HN.out⟩
          · have g0 : decide ((0 : Int) < (pos : Int)) = true := decide_eq_true (by omega)
            obtain ⟨t2, r2, rfl⟩ := HN.out.cons
            have HP0 : Hid (decide (pos = 0) = false) := hid (decide_eq_false hp0)
            have hp1 : 0 < pos := by omega
            clear hp0
            by_cases h3 : t2.kind = 3
            · have HT := hid (take_ok HN.out 3 (by omega) (by omega))
              have HC3 := hid (comma_ok (r := r2) h3)
              clear h3
              go_wp2_with (go_at_call 22; refine HT.out.mono ?_; rintro e w5 ⟨rfl, h5, hm5⟩)
              go_meet
              exact hid ⟨r2, q'.next, ⟨by rw [HP0.out]; exact HC3.out, HI.out.2.2.2⟩, h5.mono (by omega) (by have := HM.out; omega)⟩
            · have HT := hid (take_bad HN.out 3 (by omega))
              have HC3 := hid (comma_bad (r := r2) h3)
              have HGE : Hid (G = .error (fltAt 82 t2)) := hid (by
                have h := HI.out.2.2.1
                rw [HDR.out, HP0.out, opers_bad HC3.out] at h
                rw [← HGD.out, ← h])
              clear h3
              go_wp2_with (go_at_call 22; refine HT.out.mono ?_; rintro e w5 ⟨rfl, hc5⟩)
              exact ⟨rfl, InsP.bad HGE.out ⟨rfl, hc5⟩⟩
        case rest =>
          rename_i wc
          obtain ⟨ts2, q2, hcm, h5⟩ := hcut.out
          obtain ⟨t2, r2, rfl⟩ := h5.cons
          have HCM := hid hcm
          have H5 := hid h5
          clear hcut hcm h5 hnx hbn HN
          rcases HCC.out with rfl | rfl | rfl
          · obtain rfl : (114 : Int) = cn := HCN.out
            have hlk := HLK114.out wc (H5.out.getX (j := 5) rfl)
            have hOP := hid (oper_rk H5.out HV.out (by have h := HI.out.2.1; rw [HDR.out] at h; simp at h; omega) HI.out.1)
            have HEQ : Hid (∀ D2, operD 114 k (t2 :: r2) x' = D2 → D2 = operD 114 k (t2 :: r2) x') := hid (fun D2 h => h.symm)
            cases hO : operD 114 k (t2 :: r2) x' with
            | error f =>
              rw [hO] at hOP
              have HGE : Hid (G = .error f) := hid (by
                have h := HI.out.2.2.1
                rw [HDR.out, opers_bad2 HCM.out.1 hO] at h
                rw [← HGD.out, ← h])
              clear hO HEQ
              go_wp2_with (go_at_call 73; refine hOP.out.mono ?_; rintro e w6 ⟨rfl, hc6⟩)
              exact ⟨rfl, InsP.bad HGE.out ⟨rfl, hc6⟩⟩
            | ok p =>
              obtain ⟨ts3, k2, y⟩ := p
              rw [hO] at hOP
              have HNX : Hid (opersD (F.drop (pos + 1)) (decide (pos + 1 = 0)) k2 ts3 y = D ∧ k2 + (F.drop (pos + 1)).count 114 ≤ 3) := hid (by
                have h := HI.out.2.2.1
                have h2 := HI.out.2.1
                rw [HDR.out] at h h2
                rw [opers_ok' HCM.out.1 hO] at h
                refine ⟨by rw [← h, show decide (pos + 1 = 0) = false from decide_eq_false (by omega)], ?_⟩
                have hk2 := oper_k114 hO
                simp only [List.count_cons] at h2
                first | (simp at h2; omega) | omega)
              clear hO HEQ
              go_wp2_with (go_at_call 73; refine hOP.out.mono ?_; rintro e w6 ⟨rfl, hm6, rv2, hrv2, h6⟩)
              have HZ6 := hid (And.intro h6 hrv2)
              clear h6 hrv2 hlk
              go_roundg (gk - 1)
              case measure => have := HGK.out; omega
              case rel => exact ⟨pos + 1, k2, ts3, q2.next, y, rv2, hid (by have := HGK.out; omega), hid ⟨HZ6.out.2, HNX.out.2, HNX.out.1, HCM.out.2.1, HCM.out.2.2⟩, hid (HZ6.out.1.mono (by omega) (by have := HM.out; omega))⟩
          · obtain rfl : (110 : Int) = cn := HCN.out
            have hlk := HLK110.out wc (H5.out.getX (j := 5) rfl)
            have hOP := hid (oper_n_calls H5.out HV.out HI.out.1)
            have HEQ : Hid (∀ D2, operD 110 k (t2 :: r2) x' = D2 → D2 = operD 110 k (t2 :: r2) x') := hid (fun D2 h => h.symm)
            cases hO : operD 110 k (t2 :: r2) x' with
            | error f =>
              rw [hO] at hOP
              have HGE : Hid (G = .error f) := hid (by
                have h := HI.out.2.2.1
                rw [HDR.out, opers_bad2 HCM.out.1 hO] at h
                rw [← HGD.out, ← h])
              clear hO HEQ
              go_wp2_with (go_at_call 75; refine hOP.out.mono ?_; rintro e w6 ⟨rfl, hc6⟩)
              exact ⟨rfl, InsP.bad HGE.out ⟨rfl, hc6⟩⟩
            | ok p =>
              obtain ⟨ts3, k2, y⟩ := p
              rw [hO] at hOP
              have HNX : Hid (opersD (F.drop (pos + 1)) (decide (pos + 1 = 0)) k2 ts3 y = D ∧ k2 + (F.drop (pos + 1)).count 114 ≤ 3) := hid (by
                have h := HI.out.2.2.1
                have h2 := HI.out.2.1
                rw [HDR.out] at h h2
                rw [opers_ok' HCM.out.1 hO] at h
                refine ⟨by rw [← h, show decide (pos + 1 = 0) = false from decide_eq_false (by omega)], ?_⟩
                have hk2 := oper_k110 hO
                simp only [List.count_cons] at h2
                first | (simp at h2; omega) | omega)
              clear hO HEQ
              go_wp2_with (go_at_call 75; refine hOP.out.mono ?_; rintro e w6 ⟨rfl, hm6, rv2, hrv2, h6⟩)
              have HZ6 := hid (And.intro h6 hrv2)
              clear h6 hrv2 hlk
              go_roundg (gk - 1)
              case measure => have := HGK.out; omega
              case rel => exact ⟨pos + 1, k2, ts3, q2.next, y, rv2, hid (by have := HGK.out; omega), hid ⟨HZ6.out.2, HNX.out.2, HNX.out.1, HCM.out.2.1, HCM.out.2.2⟩, hid (HZ6.out.1.mono (by omega) (by have := HM.out; omega))⟩
          · obtain rfl : (120 : Int) = cn := HCN.out
            have hlk := HLK120.out wc (H5.out.getX (j := 5) rfl)
            have hOP := hid (oper_x_calls H5.out HV.out HI.out.1)
            have HEQ : Hid (∀ D2, operD 120 k (t2 :: r2) x' = D2 → D2 = operD 120 k (t2 :: r2) x') := hid (fun D2 h => h.symm)
            cases hO : operD 120 k (t2 :: r2) x' with
            | error f =>
              rw [hO] at hOP
              have HGE : Hid (G = .error f) := hid (by
                have h := HI.out.2.2.1
                rw [HDR.out, opers_bad2 HCM.out.1 hO] at h
                rw [← HGD.out, ← h])
              clear hO HEQ
              go_wp2_with (go_at_call 76; refine hOP.out.mono ?_; rintro e w6 ⟨rfl, hc6⟩)
              exact ⟨rfl, InsP.bad HGE.out ⟨rfl, hc6⟩⟩
            | ok p =>
              obtain ⟨ts3, k2, y⟩ := p
              rw [hO] at hOP
              have HNX : Hid (opersD (F.drop (pos + 1)) (decide (pos + 1 = 0)) k2 ts3 y = D ∧ k2 + (F.drop (pos + 1)).count 114 ≤ 3) := hid (by
                have h := HI.out.2.2.1
                have h2 := HI.out.2.1
                rw [HDR.out] at h h2
                rw [opers_ok' HCM.out.1 hO] at h
                refine ⟨by rw [← h, show decide (pos + 1 = 0) = false from decide_eq_false (by omega)], ?_⟩
                have hk2 := oper_k120 hO
                simp only [List.count_cons] at h2
                first | (simp at h2; omega) | omega)
              clear hO HEQ
              go_wp2_with (go_at_call 76; refine hOP.out.mono ?_; rintro e w6 ⟨rfl, hm6, rv2, hrv2, h6⟩)
              have HZ6 := hid (And.intro h6 hrv2)
              clear h6 hrv2 hlk
              go_roundg (gk - 1)
              case measure => have := HGK.out; omega
              case rel => exact ⟨pos + 1, k2, ts3, q2.next, y, rv2, hid (by have := HGK.out; omega), hid ⟨HZ6.out.2, HNX.out.2, HNX.out.1, HCM.out.2.1, HCM.out.2.2⟩, hid (HZ6.out.1.mono (by omega) (by have := HM.out; omega))⟩
      · have hnx := fun ty => Lib.run_next_end_at (P := Tryz.prog) wr IB (bA F) pos ty hib (by rw [bA_size]; exact hlt)
        have HDE : Hid (G = .ok (ts', putLast x' q.bks)) := hid (by
          have h := HI.out.2.2.1
          rw [List.drop_eq_nil_of_le (by omega), opers_nil] at h
          rw [← HGD.out, ← h])
        obtain ⟨hq, hg⟩ := HQ.out
        have hq2 : q'.bs = init ++ [x] := HI.out.2.2.2.1.trans hq
        have hg2 : q'.r1 = some g := HI.out.2.2.2.2.trans hg
        obtain ⟨g', hg', _, hp0, hpf, hrow, hgb, hxr⟩ := HR.out.last hq2
        obtain rfl : g = g' := by rw [hg2] at hg'; exact Option.some.inj hg'
        have bx := HR.out.getX (j := 0) rfl
        have hPXl : (rsI b ts'.length ds q' ++ (insX PX PR PA PB b rv x' ++ ([.box IB (.stringIter (bA F) pos), .box PM (.map es ck)] ++ X)))[(rsI b ts'.length ds q').length + 0]? = some (.box PX (.cells #[.int .i64 x'.op, .int .i64 x'.a, .int .i64 x'.b, .int .i64 x'.c, .int .i64 x'.n, .string x'.name, .int .i64 x'.p1, .int .i64 x'.p2, .int .i64 x'.q1, .int .i64 x'.q2] 53 (0, 0))) := by
          rw [List.getElem?_append_right (by omega), Nat.add_sub_cancel_left]; rfl
        have hgx : g ≠ PX := by
          intro e
          exact HR.out.hp.ne (i := 2) (x := rsBlocks q') rfl hPXl (by unfold rsI; simp only [List.length_cons]; omega) (g := g) hg2 (by rw [e]; rfl)
        have hitl := HR.out.li x (by rw [hq2]; simp)
        have hsm := HR.out.sm
        obtain ⟨xo, xa, xbb, xcc, xn, nm, y1, y2, y3, y4⟩ := x'
        obtain ⟨xb, xia, xic, xir⟩ := x
        simp only [BlO.v] at hp0 hrow hxr hitl
        have hPXr : PX ∉ xir.toList := fun hm => by
          have hix : (rsI b ts'.length ds q' ++ (insX PX PR PA PB b rv ⟨xo, xa, xbb, xcc, xn, nm, y1, y2, y3, y4⟩ ++ ([.box IB (.stringIter (bA F) pos), .box PM (.map es ck)] ++ X)))[3 + init.length]? = some (itRow ⟨xb, xia, xic, xir⟩) := by
            unfold rsI
            rw [hq2, show 3 + init.length = (((init.length + 1) + 1) + 1) from by omega]
            simp
          exact HR.out.hp.ne hix hPXl (by unfold rsI; rw [hq2]; simp; omega) (g := PX) (by simpa [itRow, It.blk] using hm) rfl
        obtain ⟨L, hL⟩ : ∃ L, xb.items.length = L := ⟨_, rfl⟩
        obtain ⟨I, hII⟩ : ∃ I, xb.items.flatMap itC = I := ⟨_, rfl⟩
        obtain ⟨nn, hnn⟩ : ∃ nn, init.length = nn := ⟨_, rfl⟩
        rw [hL, hII] at hrow
        rw [hL] at hp0 hitl
        rw [hnn] at hp0 hpf ⊢
        have hitl2 : L ≤ 2097152 := by omega
        have p0d : ∀ o, (wr.drew.alloc o).cell? ⟨g, nn * 4 + 1, none⟩ = some (.slice xia L xic) := fun o => (((Chg.refl [] wr).drew).alloc o).cell hp0 (by simp)
        have hglt := World.block_lt_of_cell? _ _ hp0
        simp only at hglt
        have u0 : (wr.cell? ⟨PX, 0, none⟩ = some (.int .i64 xo) ∧ wr.cell? ⟨PX, 1, none⟩ = some (.int .i64 xa) ∧ wr.cell? ⟨PX, 2, none⟩ = some (.int .i64 xbb) ∧ wr.cell? ⟨PX, 3, none⟩ = some (.int .i64 xcc) ∧ wr.cell? ⟨PX, 4, none⟩ = some (.int .i64 xn) ∧ wr.cell? ⟨PX, 5, none⟩ = some (.string nm) ∧ wr.cell? ⟨PX, 6, none⟩ = some (.int .i64 y1) ∧ wr.cell? ⟨PX, 7, none⟩ = some (.int .i64 y2) ∧ wr.cell? ⟨PX, 8, none⟩ = some (.int .i64 y3) ∧ wr.cell? ⟨PX, 9, none⟩ = some (.int .i64 y4)) := ⟨blk_cell bx 0, blk_cell bx 1, blk_cell bx 2, blk_cell bx 3, blk_cell bx 4, blk_cell bx 5, blk_cell bx 6, blk_cell bx 7, blk_cell bx 8, blk_cell bx 9⟩
        have HU := hid u0
        have hPXlt := blk_lt bx
        have HXR := hid hxr
        have HRX := hid hPXr
        have HH := hid (And.intro hrow (And.intro hL (And.intro hII (And.intro hnn (And.intro hq2 hg2)))))
        clear hrow hL hII hnn hq2 hg2 hq hg hg' bx hPXl hitl hxr hPXr u0 hlt hib
        go_upto_region 12 with fail
        (refine wp_region_held_drew (S := (fun w' => w'.cell? ⟨PX, 0, none⟩ = some (.int .i64 xo) ∧ w'.cell? ⟨PX, 1, none⟩ = some (.int .i64 xa) ∧ w'.cell? ⟨PX, 2, none⟩ = some (.int .i64 xbb) ∧ w'.cell? ⟨PX, 3, none⟩ = some (.int .i64 xcc) ∧ w'.cell? ⟨PX, 4, none⟩ = some (.int .i64 xn) ∧ w'.cell? ⟨PX, 5, none⟩ = some (.string nm) ∧ w'.cell? ⟨PX, 6, none⟩ = some (.int .i64 y1) ∧ w'.cell? ⟨PX, 7, none⟩ = some (.int .i64 y2) ∧ w'.cell? ⟨PX, 8, none⟩ = some (.int .i64 y3) ∧ w'.cell? ⟨PX, 9, none⟩ = some (.int .i64 y4))) (by kernel_rfl) (by exact HU.out) (fun hHeld => ?_); (refine wpAnyH_take (i := 0) (v := ?_) rfl (by kernel_rfl) (by kernel_rfl) (by kernel_rfl) (fun _ _ _ h => h) (Or.inl ⟨by rfl, ?_⟩) (by assumption) ?_; rotate_left 1; (focus (intro w hSw; (try dsimp only at hSw); go_simp; (try with_reducible rfl))); (try simp only [List.getElem_toArray, List.getElem_cons_zero, List.getElem_cons_succ, Act.put, List.setIfInBounds_toArray, List.set_cons_zero, List.set_cons_succ])); (refine wpAnyH_take (i := 1) (v := ?_) rfl (by kernel_rfl) (by kernel_rfl) (by kernel_rfl) (fun _ _ _ h => h) (Or.inl ⟨by rfl, ?_⟩) (by assumption) ?_; rotate_left 1; (focus (intro w hSw; (try dsimp only at hSw); go_simp; (try with_reducible rfl))); (try simp only [List.getElem_toArray, List.getElem_cons_zero, List.getElem_cons_succ, Act.put, List.setIfInBounds_toArray, List.set_cons_zero, List.set_cons_succ])); (refine wpAnyH_take (i := 2) (v := ?_) rfl (by kernel_rfl) (by kernel_rfl) (by kernel_rfl) (fun _ _ _ h => h) (Or.inl ⟨by rfl, ?_⟩) (by assumption) ?_; rotate_left 1; (focus (intro w hSw; (try dsimp only at hSw); go_simp; (try with_reducible rfl))); (try simp only [List.getElem_toArray, List.getElem_cons_zero, List.getElem_cons_succ, Act.put, List.setIfInBounds_toArray, List.set_cons_zero, List.set_cons_succ])); (refine wpAnyH_take (i := 3) (v := ?_) rfl (by kernel_rfl) (by kernel_rfl) (by kernel_rfl) (fun _ _ _ h => h) (Or.inl ⟨by rfl, ?_⟩) (by assumption) ?_; rotate_left 1; (focus (intro w hSw; (try dsimp only at hSw); go_simp; (try with_reducible rfl))); (try simp only [List.getElem_toArray, List.getElem_cons_zero, List.getElem_cons_succ, Act.put, List.setIfInBounds_toArray, List.set_cons_zero, List.set_cons_succ])); (refine wpAnyH_take (i := 5) (v := ?_) rfl (by kernel_rfl) (by kernel_rfl) (by kernel_rfl) (fun _ _ _ h => h) (Or.inl ⟨by rfl, ?_⟩) (by assumption) ?_; rotate_left 1; (focus (intro w hSw; (try dsimp only at hSw); go_simp; (try with_reducible rfl))); (try simp only [List.getElem_toArray, List.getElem_cons_zero, List.getElem_cons_succ, Act.put, List.setIfInBounds_toArray, List.set_cons_zero, List.set_cons_succ])); (refine wpAnyH_ready (rs := [4, 6]) (by kernel_rfl) (by simp) ?_; refine AllReadyH.cons rfl (fun K hK => ?_) (AllReadyH.cons rfl (fun K hK => ?_) AllReadyH.nil)); (focus (go_simp; (refine hK.out _ _ (by exact hHeld) (fun hHeld => ?_); clear hK K; (try simp only [List.getElem_toArray, List.getElem_cons_zero, List.getElem_cons_succ, Act.put, List.setIfInBounds_toArray, List.set_cons_zero, List.set_cons_succ])); (refine wpAnyH_ready (rs := [6]) (by kernel_rfl) (by simp) ?_; refine AllReadyH.cons rfl (fun K hK => ?_) AllReadyH.nil; go_simp; (refine hK.out _ _ (by exact (t10_keep ((Chg.refl [] _).alloc _) (by simp; try omega) hHeld)) (fun hHeld => ?_); clear hK K; (try simp only [List.getElem_toArray, List.getElem_cons_zero, List.getElem_cons_succ, Act.put, List.setIfInBounds_toArray, List.set_cons_zero, List.set_cons_succ]))))); rotate_left 1; (focus (go_simp; (refine hK.out _ _ (by exact (t10_keep ((Chg.refl [] _).alloc _) (by simp; try omega) hHeld)) (fun hHeld => ?_); clear hK K; (try simp only [List.getElem_toArray, List.getElem_cons_zero, List.getElem_cons_succ, Act.put, List.setIfInBounds_toArray, List.set_cons_zero, List.set_cons_succ])); (refine wpAnyH_ready (rs := [4]) (by kernel_rfl) (by simp) ?_; refine AllReadyH.cons rfl (fun K hK => ?_) AllReadyH.nil; go_simp; (refine hK.out _ _ (by exact hHeld) (fun hHeld => ?_); clear hK K; (try simp only [List.getElem_toArray, List.getElem_cons_zero, List.getElem_cons_succ, Act.put, List.setIfInBounds_toArray, List.set_cons_zero, List.set_cons_succ]))))); (all_goals ((refine wpAnyH_ready (rs := [7]) (by kernel_rfl) (by simp) ?_; refine AllReadyH.cons rfl (fun K hK => ?_) AllReadyH.nil; refine step_grew rfl _ _ 48 rfl elem_itm rfl (HH.out.1.keep (((Chg.refl [] wr).drew).alloc _) (by simp)) rfl (View.structAt wr.drew [.int .i64 xo, .int .i64 xa, .int .i64 xbb, .int .i64 xcc, .int .i64 xn, .string nm, .int .i64 y1, .int .i64 y2, .int .i64 y3, .int .i64 y4] 53 rfl rfl) (by simp [Value.oneCell']) (by unfold maxLen; omega) (by omega) (fun ao5 cap5 r5 w5 hr5 hg5 => ?_); (refine hK.out _ _ (by exact (t10_keep hg5.chg HRX.out hHeld)) (fun hHeld => ?_); clear hK K; (try simp only [List.getElem_toArray, List.getElem_cons_zero, List.getElem_cons_succ, Act.put, List.setIfInBounds_toArray, List.set_cons_zero, List.set_cons_succ]))); (refine wpAnyH_take (i := 8) (v := ?_) rfl (by kernel_rfl) (by kernel_rfl) (by kernel_rfl) (fun _ _ _ h => h) (Or.inl ⟨by rfl, ?_⟩) (by assumption) ?_; rotate_left 1; (focus (intro w hSw; (try dsimp only at hSw); go_simp; (try with_reducible rfl))); (try simp only [List.getElem_toArray, List.getElem_cons_zero, List.getElem_cons_succ, Act.put, List.setIfInBounds_toArray, List.set_cons_zero, List.set_cons_succ])); (refine wpAnyH_take (i := 9) (v := ?_) rfl (by kernel_rfl) (by kernel_rfl) (by kernel_rfl) (fun _ _ _ h => h) (Or.inl ⟨by rfl, ?_⟩) (by assumption) ?_; rotate_left 1; (focus (intro w hSw; (try dsimp only at hSw); go_simp; (try with_reducible rfl))); (try simp only [List.getElem_toArray, List.getElem_cons_zero, List.getElem_cons_succ, Act.put, List.setIfInBounds_toArray, List.set_cons_zero, List.set_cons_succ])); (refine wpAnyH_ready (rs := [10]) (by kernel_rfl) (by simp) ?_; refine AllReadyH.cons rfl (fun K hK => ?_) AllReadyH.nil; go_simp; (have p5 : w5.cell? ⟨g, nn * 4 + 1, none⟩ = some (.slice xia L xic) := hg5.chg.cell (p0d _) (fun hm => HXR.out (by simpa using hm)); have f5 : w5.frozen? ⟨g, nn * 4 + 1, none⟩ = false := hg5.chg.free (p0d _) ((((Chg.refl [] wr).drew).alloc _).free hp0 hpf (by simp)) (fun hm => HXR.out (by simpa using hm)); go_simp); (refine hK.out _ _ (by exact (t10_keep ((Chg.refl [g] w5).setCell (p := ⟨g, nn * 4 + 1, none⟩) (.inl (by simp)) _) (by simp; omega) hHeld)) (fun hHeld => ?_); clear hK K; (try simp only [List.getElem_toArray, List.getElem_cons_zero, List.getElem_cons_succ, Act.put, List.setIfInBounds_toArray, List.set_cons_zero, List.set_cons_succ]))); refine wpAnyH_done (by kernel_rfl) ?_ _)))
        all_goals
          go_wp2_with fail
          go_end0
          obtain ⟨hrow, hL, hII, hnn, hq2, hg2⟩ := HH.out
          obtain ⟨q'', h6, h7⟩ := item_more HR.out hq2 hg2 (m := m) (by have := HM2.out; omega) HM.out hL hII hnn (((Chg.refl [] wr).drew).alloc _) (it := ⟨xo, xa, xbb, xcc, xn, nm, y1, y2, y3, y4⟩) hr5 hg5
          refine InsP.good HDE.out (q := q'') ?_ (h6.subX ?_)
          · rw [h7]
            unfold RQ.bks
            rw [HI.out.2.2.2.1]
          · exact .cons _ (.cons _ (.cons _ (.cons _ (.cons _ (.cons _ (.refl _))))))
end
end Go.Proofs.YtmahcabidggmeaaGreatDoor
