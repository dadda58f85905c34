/- What is read is small, and its numbers are of 64 bits. No program in sight. -/
import Derived.Test.YtmahcabidggmeaaGreatDoorPx
set_option linter.unusedSimpArgs false
set_option linter.unusedVariables false
set_option linter.unusedSectionVars false
namespace Go.AB
open Go.RowKit

theorem num64_0 : Num64 0 := ⟨by decide, by decide⟩
/-- The tokens' numbers are of 64 bits. -/
def TokN (ts : List Tok) : Prop := ∀ t ∈ ts, Num64 t.num
theorem TokN.tail {t : Tok} {r : List Tok} (h : TokN (t :: r)) : TokN r := fun x hx => h x (List.mem_cons_of_mem _ hx)
theorem TokN.head {t : Tok} {r : List Tok} (h : TokN (t :: r)) : Num64 t.num := h t (List.mem_cons_self ..)
/-- So many blocks and Items. -/
def bsz : List BkD → Nat
  | [] => 0
  | b :: bs => b.items.length + 1 + bsz bs
theorem bsz_app : ∀ (a b : List BkD), bsz (a ++ b) = bsz a + bsz b
  | [], b => by simp [bsz]
  | x :: a, b => by simp only [List.cons_append, bsz, bsz_app a b]; omega
def BkW (bs : List BkD) : Prop := ∀ b ∈ bs, ∀ x ∈ b.items, Num64 x.n
theorem bkw_snoc {bs : List BkD} {b : BkD} (h : BkW bs) (hb : ∀ x ∈ b.items, Num64 x.n) : BkW (bs ++ [b]) := fun y hy => by
  rcases List.mem_append.1 hy with hy | hy
  · exact h y hy
  · simp only [List.mem_singleton] at hy; subst hy; exact hb
theorem put_w {bs : List BkD} {x : ItD} (h : BkW bs) (hx : Num64 x.n) : BkW (putLast x bs) ∧ bsz (putLast x bs) ≤ bsz bs + 1 := by
  unfold putLast
  split
  · exact ⟨h, by omega⟩
  · rename_i k hk
    have hm := List.mem_of_getLast? hk
    have hne : bs ≠ [] := fun e => by rw [e] at hk; cases hk
    have hl : bs.getLast hne = k := by
      have := List.getLast?_eq_some_getLast hne
      rw [hk] at this
      exact (Option.some.inj this).symm
    have hb : bs = bs.dropLast ++ [k] := by rw [← hl, List.dropLast_concat_getLast]
    refine ⟨bkw_snoc (fun b hb => h b ((List.dropLast_sublist bs).mem hb)) fun y hy => ?_, ?_⟩
    · rcases List.mem_append.1 hy with hy | hy
      · exact h k hm y hy
      · simp only [List.mem_singleton] at hy; subst hy; exact hx
    · conv => rhs; rw [hb]
      rw [bsz_app, bsz_app]
      simp only [bsz, List.length_append, List.length_cons, List.length_nil]
      omega
theorem labels_w : ∀ (n : Nat) (ts : List Tok) (bs : List BkD) (any : Bool) {p : List Tok × List BkD × Bool}, ts.length ≤ n → TokN ts → BkW bs → labelsD ts bs any = .ok p → TokN p.1 ∧ BkW p.2.1 ∧ bsz p.2.1 + p.1.length ≤ bsz bs + ts.length
  | n, [], bs, any, p, _, hs, hb, h => by unfold labelsD at h; cases h; exact ⟨hs, hb, Nat.le_refl _⟩
  | n, [t], bs, any, p, _, hs, hb, h => by unfold labelsD at h; cases h; exact ⟨hs, hb, Nat.le_refl _⟩
  | 0, t :: c :: r, bs, any, p, hn, hs, hb, h => by simp at hn
  | n + 1, t :: c :: r, bs, any, p, hn, hs, hb, h => by
    unfold labelsD at h
    split at h
    · split at h
      · cases h
      · split at h
        · cases h
        · have hp := put_w (x := labelI t) hb num64_0
          obtain ⟨g1, g2, g3⟩ := labels_w n r _ _ (by simp only [List.length_cons] at hn; omega) hs.tail.tail hp.1 h
          refine ⟨g1, g2, ?_⟩
          have := hp.2
          simp only [List.length_cons]
          omega
    · cases h
      exact ⟨hs, hb, Nat.le_refl _⟩
theorem oper_w {c : UInt8} {k : Nat} {ts : List Tok} {x : ItD} {p : List Tok × Nat × ItD} (hs : TokN ts) (hx : Num64 x.n) (h : operD c k ts x = .ok p) : TokN p.1 ∧ Num64 p.2.2.n ∧ p.1.length ≤ ts.length := by
  unfold operD at h
  split at h
  · split at h
    · cases h
    · split at h
      · cases h
        refine ⟨hs.tail, ?_, by simp⟩
        have : ∀ m : Int, (setReg x k m).n = x.n := fun m => by unfold setReg; (repeat' split) <;> rfl
        rw [this]
        exact hx
      · cases h
  · split at h
    · split at h
      · cases h
      · rename_i t r e
        cases h
        obtain ⟨rfl, _⟩ := takeK_ok e
        exact ⟨hs.tail, hs.head, by simp⟩
    · split at h
      · cases h
      · rename_i t r e
        cases h
        obtain ⟨rfl, _⟩ := nameT_ok e
        exact ⟨hs.tail, hx, by simp⟩
theorem opers_w : ∀ (f : List UInt8) (first : Bool) (k : Nat) (ts : List Tok) (x : ItD) {p : List Tok × ItD}, TokN ts → Num64 x.n → opersD f first k ts x = .ok p → TokN p.1 ∧ Num64 p.2.n ∧ p.1.length ≤ ts.length
  | [], first, k, ts, x, p, hs, hx, h => by unfold opersD at h; cases h; exact ⟨hs, hx, Nat.le_refl _⟩
  | c :: f, first, k, ts, x, p, hs, hx, h => by
    unfold opersD at h
    have hcm : ∀ us, (if first = true then Except.ok ts else (takeK 3 ts).map Prod.snd) = .ok us → TokN us ∧ us.length ≤ ts.length := by
      intro us hu
      split at hu
      · cases hu; exact ⟨hs, Nat.le_refl _⟩
      · cases e : takeK 3 ts with
        | error e9 => rw [e] at hu; cases hu
        | ok p =>
          rw [e] at hu
          cases hu
          obtain ⟨rfl, _⟩ := takeK_ok (t := p.1) (r := p.2) e
          exact ⟨hs.tail, by simp⟩
    revert h hcm
    generalize (if first = true then Except.ok ts else (takeK 3 ts).map Prod.snd) = A
    intro h hcm
    cases A with
    | error e => cases h
    | ok us =>
      obtain ⟨hus, hul⟩ := hcm us rfl
      simp only at h
      cases eo : operD c k us x with
      | error e => rw [eo] at h; cases h
      | ok q =>
        obtain ⟨vs, k2, x2⟩ := q
        rw [eo] at h
        simp only at h
        obtain ⟨g1, g2, g3⟩ := oper_w hus hx eo
        obtain ⟨g4, g5, g6⟩ := opers_w f false k2 vs x2 g1 g2 h
        exact ⟨g4, g5, by simp only at g3; omega⟩
theorem instr_w {op : Nat} {ts : List Tok} {bs : List BkD} {p : List Tok × List BkD} (hs : TokN ts) (hb : BkW bs) (h : instrD op ts bs = .ok p) : TokN p.1 ∧ BkW p.2 ∧ bsz p.2 + p.1.length ≤ bsz bs + ts.length := by
  unfold instrD at h
  cases ts with
  | nil => cases h
  | cons t r =>
    dsimp only at h
    split at h
    · cases h
    · split at h
      · cases h
      · rename_i us y ho
        cases h
        obtain ⟨g1, g2, g3⟩ := opers_w _ true 0 r _ hs.tail num64_0 ho
        have hp := put_w hb g2
        refine ⟨g1, hp.1, ?_⟩
        have := hp.2
        simp only [List.length_cons] at g3 this ⊢
        omega
theorem value_w {kind : Nat} {ts : List Tok} {p : Int × List Tok} (hs : TokN ts) (h : valueD kind ts = .ok p) : TokN p.2 ∧ Num64 p.1 ∧ p.2.length ≤ ts.length := by
  unfold valueD at h
  split at h
  · split at h
    · cases h
    · rename_i a us h1
      split at h
      · cases h
      · rename_i t vs h2
        cases h
        obtain ⟨rfl, _⟩ := takeK_ok h1
        obtain ⟨rfl, _⟩ := takeK_ok h2
        exact ⟨hs.tail.tail, hs.tail.head, by simp only [List.length_cons]; omega⟩
  · cases h
    exact ⟨hs, num64_0, Nat.le_refl _⟩
theorem decl_w {kind : Nat} : ∀ (fuel : Nat) (ts : List Tok) (ds : List DcD) {p : List Tok × List DcD}, TokN ts → (∀ d ∈ ds, Num64 d.val) → declG kind fuel ts ds = .ok p → TokN p.1 ∧ (∀ d ∈ p.2, Num64 d.val) ∧ p.2.length + p.1.length ≤ ds.length + ts.length
  | 0, ts, ds, p, hs, hd, h => by unfold declG at h; cases h; exact ⟨hs, hd, Nat.le_refl _⟩
  | fuel + 1, ts, ds, p, hs, hd, h => by
    unfold declG at h
    split at h
    · cases h
    · rename_i t us h1
      obtain ⟨rfl, hf, hl⟩ := nameT_ok h1
      split at h
      · cases h
      · rename_i v vs h2
        obtain ⟨hvs, hv, hvl⟩ := value_w hs.tail h2
        have hd2 : ∀ d ∈ ds ++ [(⟨kind, bA t.text, v, t.line, t.col⟩ : DcD)], Num64 d.val := fun y hy => by
          rcases List.mem_append.1 hy with hy | hy
          · exact hd y hy
          · simp only [List.mem_singleton] at hy; subst hy; exact hv
        simp only at hvs hvl
        split at h
        · rename_i c r
          split at h
          · obtain ⟨g1, g2, g3⟩ := decl_w fuel r _ hvs.tail hd2 h
            refine ⟨g1, g2, ?_⟩
            simp only [List.length_append, List.length_cons, List.length_nil] at g3 hvl ⊢
            omega
          · cases h
            refine ⟨hvs, hd2, ?_⟩
            simp only [List.length_append, List.length_cons, List.length_nil] at hvl ⊢
            omega
        · cases h
          refine ⟨hvs, hd2, ?_⟩
          simp only [List.length_append, List.length_cons, List.length_nil]
          omega
theorem end_w {α : Type} {ts : List Tok} {a : α} {p : List Tok × α} (h : endD ts a = .ok p) : p.1 = ts ∧ p.2 = a := by
  unfold endD at h
  split at h
  · cases h
  · split at h
    · cases h; exact ⟨rfl, rfl⟩
    · cases h
structure UnZ (u : UnD) (n : Nat) : Prop where
  w : UnW u
  n : u.decls.length + bsz u.blocks ≤ n
theorem line_w {ts : List Tok} {u : UnD} {n : Nat} {p : List Tok × UnD} (hs : TokN ts) (hu : UnW u) (hn : u.decls.length + bsz u.blocks + ts.length ≤ n) (h : lineD ts u = .ok p) : TokN p.1 ∧ UnW p.2 ∧ p.2.decls.length + bsz p.2.blocks + p.1.length ≤ n := by
  unfold lineD at h
  split at h
  · cases h
  · cases h
  · rename_i t r bs any hl
    obtain ⟨l1, l2, l3⟩ := labels_w _ _ _ _ (Nat.le_refl _) hs hu.i hl
    simp only [List.length_cons] at l1 l2 l3
    split at h
    · cases h
      exact ⟨l1, ⟨hu.d, l2⟩, by simp only [List.length_cons]; omega⟩
    · split at h
      · split at h
        · cases h
        · rename_i us bs2 hi
          obtain ⟨i1, i2, i3⟩ := instr_w l1 l2 hi
          obtain ⟨e1, e2⟩ := end_w h
          rw [e1, e2]
          exact ⟨i1, ⟨hu.d, i2⟩, by simp only [List.length_cons] at i3 ⊢; omega⟩
      · split at h
        · cases h
        · split at h
          · split at h
            · cases h
            · rename_i x us hx
              obtain ⟨rfl, _, _⟩ := nameT_ok hx
              obtain ⟨e1, e2⟩ := end_w h
              rw [e1, e2]
              refine ⟨l1.tail.tail, ⟨hu.d, bkw_snoc l2 (by simp)⟩, ?_⟩
              simp only [bsz_app, bsz, List.length_nil, List.length_cons] at l3 ⊢
              omega
          · split at h
            · cases h
            · rename_i us ds hd
              obtain ⟨d1, d2, d3⟩ := decl_w _ _ _ l1.tail hu.d hd
              obtain ⟨e1, e2⟩ := end_w h
              rw [e1, e2]
              exact ⟨d1, ⟨d2, l2⟩, by simp only at d3 ⊢; omega⟩
theorem lines_w : ∀ (fuel : Nat) (ts : List Tok) (u : UnD) {v : UnD} {n : Nat}, TokN ts → UnW u → u.decls.length + bsz u.blocks + ts.length ≤ n → linesD fuel ts u = .ok v → UnW v ∧ v.decls.length + bsz v.blocks ≤ n
  | 0, ts, u, v, n, hs, hu, hn, h => by unfold linesD at h; cases h; exact ⟨hu, by omega⟩
  | fuel + 1, ts, u, v, n, hs, hu, hn, h => by
    unfold linesD at h
    split at h
    · cases h
    · rename_i t r w hl
      obtain ⟨l1, l2, l3⟩ := line_w hs hu hn hl
      simp only [List.length_cons] at l1 l2 l3
      split at h
      · exact lines_w fuel r w l1.tail l2 (by omega) h
      · cases h; exact ⟨l2, by omega⟩
    · rename_i w hl
      obtain ⟨l1, l2, l3⟩ := line_w hs hu hn hl
      cases h
      exact ⟨l2, by simp only [List.length_nil] at l3; omega⟩
/-- What is read is small. -/
theorem unitT_w {ts : List Tok} {u : UnD} (hs : TokN ts) (h : unitT ts = .ok u) : UnW u ∧ u.decls.length + bsz u.blocks ≤ ts.length :=
  lines_w _ _ ⟨[], []⟩ hs ⟨by simp, by simp⟩ (by simp [bsz]) h
theorem bsz_len : ∀ (bs : List BkD), bs.length ≤ bsz bs ∧ ∀ b ∈ bs, b.items.length ≤ bsz bs
  | [] => ⟨by simp [bsz], by simp⟩
  | b :: bs => by
    obtain ⟨h1, h2⟩ := bsz_len bs
    refine ⟨by simp only [List.length_cons, bsz]; omega, fun x hx => ?_⟩
    rcases List.mem_cons.1 hx with rfl | hx
    · simp only [bsz]; omega
    · have := h2 x hx; simp only [bsz]; omega
end Go.AB
