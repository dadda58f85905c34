/- What is wrong has a number. -/
import Derived.Test.YtmahcabidggmeaaGreatDoorVpx
set_option linter.unusedVariables false
set_option linter.unusedSectionVars false
set_option linter.unusedSimpArgs false
namespace Go.AB
open Go.RowKit
/-- A fault has a number. -/
def ErrN {α : Type} (x : Except Flt α) : Prop := ∀ f, x = .error f → f.code ≠ 0
theorem err_at (c : Int) (h : c ≠ 0) (t : Tok) : (fltAt c t).code ≠ 0 := h
theorem takeK_err (k : Nat) (ts : List Tok) : ErrN (takeK k ts) := by
  intro f hf
  unfold takeK at hf
  split at hf
  · cases hf; decide
  · split at hf <;> cases hf
    exact err_at 82 (by decide) _
theorem nameT_err (ts : List Tok) : ErrN (nameT ts) := by
  intro f hf
  unfold nameT at hf
  split at hf
  · cases hf; decide
  · split at hf
    · cases hf; exact err_at 82 (by decide) _
    · split at hf <;> cases hf
      exact err_at 84 (by decide) _
theorem labels_err : ∀ (n : Nat) {ts : List Tok} {bs : List BkD} {any : Bool}, ts.length ≤ n → ErrN (labelsD ts bs any)
  | n, [], bs, any, hn => fun f hf => by cases hf
  | n, [t], bs, any, hn => fun f hf => by cases hf
  | n, t :: c :: q, bs, any, hn => fun f hf => by
    unfold labelsD at hf
    split at hf
    · split at hf
      · cases hf; exact err_at 81 (by decide) _
      · split at hf
        · cases hf; exact err_at 84 (by decide) _
        · match n, hn with
          | n + 1, hn => exact labels_err n (by simp only [List.length_cons] at hn; omega) f hf
    · cases hf
theorem oper_err (c : UInt8) (k : Nat) (ts : List Tok) (x : ItD) : ErrN (operD c k ts x) := by
  intro f hf
  unfold operD at hf
  split at hf
  · split at hf
    · cases hf; decide
    · split at hf <;> cases hf
      exact err_at 82 (by decide) _
  · split at hf
    · split at hf
      · rename_i e; cases hf; exact takeK_err _ _ _ e
      · cases hf
    · split at hf
      · rename_i e; cases hf; exact nameT_err _ _ e
      · cases hf
theorem opers_err : ∀ (f : List UInt8) (first : Bool) (k : Nat) (ts : List Tok) (x : ItD), ErrN (opersD f first k ts x)
  | [], _, _, ts, x => fun f hf => by cases hf
  | c :: f, first, k, ts, x => fun g hg => by
    unfold opersD at hg
    split at hg
    · rename_i e
      cases hg
      split at e
      · cases e
      · cases e2 : takeK 3 ts with
        | error f2 => rw [e2] at e; cases e; exact takeK_err _ _ _ e2
        | ok p => rw [e2] at e; cases e
    · split at hg
      · rename_i e; cases hg; exact oper_err _ _ _ _ _ e
      · exact opers_err f false _ _ _ g hg
theorem instr_err (op : Nat) (ts : List Tok) (bs : List BkD) : ErrN (instrD op ts bs) := by
  intro f hf
  unfold instrD at hf
  split at hf
  · cases hf; decide
  · split at hf
    · cases hf; exact err_at 81 (by decide) _
    · split at hf
      · rename_i e; cases hf; exact opers_err _ _ _ _ _ _ e
      · cases hf
theorem value_err (kind : Nat) (ts : List Tok) : ErrN (valueD kind ts) := by
  intro f hf
  unfold valueD at hf
  split at hf
  · split at hf
    · rename_i e; cases hf; exact takeK_err _ _ _ e
    · split at hf
      · rename_i e; cases hf; exact takeK_err _ _ _ e
      · cases hf
  · cases hf
theorem declG_err (kind : Nat) : ∀ (fuel : Nat) (ts : List Tok) (ds : List DcD), ErrN (declG kind fuel ts ds)
  | 0, ts, ds => fun f hf => by cases hf
  | fuel + 1, ts, ds => fun f hf => by
    unfold declG at hf
    split at hf
    · rename_i e; cases hf; exact nameT_err _ _ e
    · split at hf
      · rename_i e; cases hf; exact value_err _ _ _ e
      · split at hf
        · split at hf
          · exact declG_err kind fuel _ _ f hf
          · cases hf
        · cases hf
theorem end_err {α : Type} (ts : List Tok) (a : α) : ErrN (endD ts a) := by
  intro f hf
  unfold endD at hf
  split at hf
  · cases hf; decide
  · split at hf <;> cases hf
    exact err_at 83 (by decide) _
theorem line_err (ts : List Tok) (u : UnD) : ErrN (lineD ts u) := by
  intro f hf
  unfold lineD at hf
  split at hf
  · rename_i e; cases hf; exact labels_err _ (Nat.le_refl _) _ e
  · cases hf; decide
  · split at hf
    · cases hf
    · split at hf
      · split at hf
        · rename_i e; cases hf; exact instr_err _ _ _ _ e
        · exact end_err _ _ f hf
      · split at hf
        · cases hf; exact err_at 80 (by decide) _
        · split at hf
          · split at hf
            · rename_i e; cases hf; exact nameT_err _ _ e
            · exact end_err _ _ f hf
          · split at hf
            · rename_i e; cases hf; exact declG_err _ _ _ _ _ e
            · exact end_err _ _ f hf
theorem lines_err : ∀ (fuel : Nat) (ts : List Tok) (u : UnD), ErrN (linesD fuel ts u)
  | 0, ts, u => fun f hf => by cases hf
  | fuel + 1, ts, u => fun f hf => by
    unfold linesD at hf
    split at hf
    · rename_i e; cases hf; exact line_err _ _ _ e
    · split at hf
      · exact lines_err fuel _ _ f hf
      · cases hf
    · cases hf
theorem source_err {L : List UInt8} {f : Flt} (h : sourceD L = .error f) : f.code ≠ 0 := by
  by_cases hz : (scanD L 1 1).2.1 = 0
  · rw [source_ok hz] at h
    exact lines_err _ _ _ f h
  · rw [source_bad hz] at h
    cases h
    show ((_ : Nat) : Int) ≠ 0
    omega
end Go.AB
