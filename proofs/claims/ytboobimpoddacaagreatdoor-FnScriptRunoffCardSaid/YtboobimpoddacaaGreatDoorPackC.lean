/-
  What a script gives: line by line, then the last line. Plain Lean, no program is walked here.
  The risk of an audit: by the program and by the reference.
  A script by the reference: cutting a text, numbers, a line, the whole.
  A script by the program: numbers, a line.
  A line of a script, and a script, by the reference.
  A script by the reference.
  A line of a script by the program.
  A script by the program.
  What the rows' listed variables, and the shape of the world, give to the walks; the door's own heap meets the list; the row's builder with both at hand.
-/
import Derived.Test.YtboobimpoddacaaGreatDoorPackA
import Derived.Test.YtboobimpoddacaaGreatDoorDoorA
import Derived.Test.YtboobimpoddacaaGreatDoorPackB
import Derived.Test.YtboobimpoddacaaGreatDoorDoorB
import Derived.Lib.AtoiErrMem
import Derived.Test.YtboobimpoddacaaGreatDoorRows
import Derived.Shelf.Vars
import Derived.LaidLaws
import Derived.LaidMore
import Derived.LaidHandle
import Derived.Stop.LaidErr
import Derived.Handed
import Derived.Lib.LaidTab
import Derived.HandedShaped
import Derived.Lay
import Derived.LaidOnce
namespace Go.Proofs.YtboobimpoddacaaGreatDoor
open Go.RowKit
set_option linter.unusedVariables false

def tNo : ByteArray := ⟨#[110, 111, 10]⟩
def tOk : ByteArray := ⟨#[111, 107, 10]⟩
def tWhat : ByteArray := ⟨#[119, 104, 97, 116, 10]⟩
def tVote : ByteArray := ⟨#[118, 111, 116, 101]⟩
def tClear : ByteArray := ⟨#[99, 108, 101, 97, 114]⟩
def tPlur : ByteArray := ⟨#[112, 108, 117, 114, 97, 108, 105, 116, 121]⟩
def tRun : ByteArray := ⟨#[114, 117, 110, 111, 102, 102]⟩
def tPairs : ByteArray := ⟨#[112, 97, 105, 114, 115]⟩
def tRisk : ByteArray := ⟨#[114, 105, 115, 107]⟩
def tOf : ByteArray := ⟨#[32, 111, 102, 32]⟩
def tNl : ByteArray := ⟨#[10]⟩
def tBal : ByteArray := ⟨#[98, 97, 108, 108, 111, 116, 115, 32]⟩
def tPil : ByteArray := ⟨#[32, 112, 105, 108, 101, 115, 32]⟩
def tLong : ByteArray := ⟨#[116, 111, 111, 32, 108, 111, 110, 103, 10]⟩

/-- A text beside a written one. -/
theorem lit_eq (t : ByteArray) (l : List UInt8) : (t.toList == l) = decide (t = ⟨l.toArray⟩) := by
  have h : (⟨l.toArray⟩ : ByteArray).toList = l := by rw [ByteArray.toList_eq]
  have h2 := str_eq t ⟨l.toArray⟩
  rw [h] at h2
  exact h2
/-- Word k of a line. -/
def word (ws : List ByteArray) (k : Nat) : ByteArray := ws[k]?.getD ⟨#[]⟩
def orNo (t : ByteArray) : ByteArray := if t = ⟨#[]⟩ then tNo else t
def riskText (a b c : Int) : ByteArray :=
  if riskWays a b c < 0 then tNo else dec (riskWays a b c).toNat ++ tOf ++ dec (riskAll a b).toNat ++ tNl
/-- What a line does with the piles, and what it says. -/
def lineOf (ps : List Pl) (t0 t1 : ByteArray) (a b c : Int) : List Pl × ByteArray :=
  if t0 = tVote then if addOK ps t1 b then (addRes ps t1 b, tOk) else (ps, tNo)
  else if t0 = tClear then ([], tOk)
  else if t0 = tPlur then (ps, orNo (conText ps a 1 b))
  else if t0 = tRun then (ps, orNo (conText ps a 2 b))
  else if t0 = tPairs then (ps, orNo (conText ps a 3 b))
  else if t0 = tRisk then (ps, riskText a b c)
  else (ps, tWhat)
def lineRes (ps : List Pl) (ws : List ByteArray) : List Pl × ByteArray := lineOf ps (word ws 0) (word ws 1) (num (word ws 1)) (num (word ws 2)) (num (word ws 3))
/-- Empty words behind a line's words change nothing. -/
theorem word_pad (ws : List ByteArray) (j k : Nat) : word (ws ++ List.replicate j ⟨#[]⟩) k = word ws k := by
  unfold word
  rcases Nat.lt_or_ge k ws.length with h | h
  · rw [List.getElem?_append_left h]
  · rw [List.getElem?_append_right h, List.getElem?_eq_none h, List.getElem?_replicate]
    split <;> rfl
theorem lineRes_pad (ps : List Pl) (ws : List ByteArray) (j : Nat) : lineRes ps (ws ++ List.replicate j ⟨#[]⟩) = lineRes ps ws := by
  unfold lineRes
  rw [word_pad, word_pad, word_pad, word_pad]
theorem line_vote {ps : List Pl} {t0 t1 : ByteArray} {a b c : Int} (h : t0 = tVote) : lineOf ps t0 t1 a b c = if addOK ps t1 b then (addRes ps t1 b, tOk) else (ps, tNo) := by
  unfold lineOf
  rw [if_pos h]
theorem line_clr {ps : List Pl} {t0 t1 : ByteArray} {a b c : Int} (h : t0 = tClear) : lineOf ps t0 t1 a b c = ([], tOk) := by
  unfold lineOf
  rw [h, if_neg (by decide), if_pos rfl]
theorem line_plur {ps : List Pl} {t0 t1 : ByteArray} {a b c : Int} (h : t0 = tPlur) : lineOf ps t0 t1 a b c = (ps, orNo (conText ps a 1 b)) := by
  unfold lineOf
  rw [h, if_neg (by decide), if_neg (by decide), if_pos rfl]
theorem line_run {ps : List Pl} {t0 t1 : ByteArray} {a b c : Int} (h : t0 = tRun) : lineOf ps t0 t1 a b c = (ps, orNo (conText ps a 2 b)) := by
  unfold lineOf
  rw [h, if_neg (by decide), if_neg (by decide), if_neg (by decide), if_pos rfl]
theorem line_pairs {ps : List Pl} {t0 t1 : ByteArray} {a b c : Int} (h : t0 = tPairs) : lineOf ps t0 t1 a b c = (ps, orNo (conText ps a 3 b)) := by
  unfold lineOf
  rw [h, if_neg (by decide), if_neg (by decide), if_neg (by decide), if_neg (by decide), if_pos rfl]
theorem line_risk {ps : List Pl} {t0 t1 : ByteArray} {a b c : Int} (h : t0 = tRisk) : lineOf ps t0 t1 a b c = (ps, riskText a b c) := by
  unfold lineOf
  rw [h, if_neg (by decide), if_neg (by decide), if_neg (by decide), if_neg (by decide), if_neg (by decide), if_pos rfl]
theorem line_what {ps : List Pl} {t0 t1 : ByteArray} {a b c : Int} (h1 : t0 ≠ tVote) (h2 : t0 ≠ tClear) (h3 : t0 ≠ tPlur) (h4 : t0 ≠ tRun) (h5 : t0 ≠ tPairs) (h6 : t0 ≠ tRisk) : lineOf ps t0 t1 a b c = (ps, tWhat) := by
  unfold lineOf
  rw [if_neg h1, if_neg h2, if_neg h3, if_neg h4, if_neg h5, if_neg h6]
def runLine (st : List Pl × ByteArray) (l : ByteArray) : List Pl × ByteArray := ((lineRes st.1 (cut 32 l)).1, st.2 ++ (lineRes st.1 (cut 32 l)).2)
def runLines (ls : List ByteArray) : List Pl × ByteArray := ls.foldl runLine ([], ⟨#[]⟩)
theorem runLines_snoc (ls : List ByteArray) (l : ByteArray) : runLines (ls ++ [l]) = runLine (runLines ls) l := by simp [runLines]
def linesOf (t : ByteArray) : List ByteArray := (cut 10 t).dropLast
def tailText (ps : List Pl) : ByteArray := tBal ++ dec (sumPl ps).toNat ++ tPil ++ dec ps.length ++ tNl
/-- What a script gives. -/
def exec (t : ByteArray) : ByteArray := if 400 < t.size then tLong else (runLines (linesOf t)).2 ++ tailText (runLines (linesOf t)).1

/-! ### the state stays valid -/
def StOK (ps : List Pl) : Prop := pilesOK ps = true ∧ ∀ p ∈ ps, p.1.size ≤ 400
theorem StOK.nil : StOK [] := ⟨rfl, by simp⟩
theorem StOK.add {ps : List Pl} {t : ByteArray} {m : Int} (h : StOK ps) (ht : t.size ≤ 400) (hok : addOK ps t m = true) : StOK (addRes ps t m) := by
  unfold addRes
  rw [if_pos hok]
  refine ⟨?_, put_sizes h.2 ht⟩
  unfold addOK at hok
  simp only [Bool.and_eq_true] at hok
  exact hok.2
theorem StOK.sizes {ps : List Pl} (h : StOK ps) : ∀ p ∈ ps, p.1.size ≤ 2000000 := fun p hp => Nat.le_trans (h.2 p hp) (by omega)
theorem StOK.many {ps : List Pl} (h : StOK ps) : ∀ p ∈ ps, 0 ≤ p.2 ∧ p.2 ≤ 99 := fun p hp => by
  have := plOK_many (((pilesOK_iff ps).1 h.1).1 p hp)
  omega
theorem StOK.few {ps : List Pl} (h : StOK ps) : ps.length ≤ 12 := ((pilesOK_iff ps).1 h.1).2.2
theorem sum_many {ps : List Pl} (h : ∀ p ∈ ps, 0 ≤ p.2 ∧ p.2 ≤ 99) : 0 ≤ sumPl ps ∧ sumPl ps ≤ 99 * (ps.length : Int) := by
  induction ps with
  | nil => simp [sumPl]
  | cons p ps ih =>
    have h1 := ih (fun x hx => h x (List.mem_cons_of_mem _ hx))
    have h2 := h p (by simp)
    have h3 : sumPl (p :: ps) = p.2 + sumPl ps := by simp [sumPl]
    rw [h3, List.length_cons]
    omega
theorem StOK.sum {ps : List Pl} (h : StOK ps) : 0 ≤ sumPl ps ∧ sumPl ps ≤ 1188 := by
  have h1 := sum_many h.many
  have h2 := h.few
  omega
theorem word_size {ws : List ByteArray} {M : Nat} (h : ∀ p ∈ ws, p.size ≤ M) (k : Nat) : (word ws k).size ≤ M := by
  unfold word
  cases hk : ws[k]? with
  | none => exact Nat.zero_le _
  | some x => exact h x (List.mem_of_getElem? hk)
theorem lineRes_ok {ps : List Pl} {ws : List ByteArray} (h : StOK ps) (hw : ∀ p ∈ ws, p.size ≤ 400) : StOK (lineRes ps ws).1 := by
  unfold lineRes lineOf
  split
  · split
    · rename_i hok
      exact h.add (word_size hw 1) hok
    · exact h
  · split
    · exact StOK.nil
    · split
      · exact h
      · split
        · exact h
        · split
          · exact h
          · split <;> exact h

/-! ### each line's answer ends its line -/
def EndsNl (t : ByteArray) : Prop := ∃ u, t = u ++ tNl
theorem EndsNl.app {t : ByteArray} (h : EndsNl t) (s : ByteArray) : EndsNl (s ++ t) := by
  obtain ⟨u, rfl⟩ := h
  exact ⟨s ++ u, by rw [ByteArray.append_assoc]⟩
theorem no_nl : EndsNl tNo := ⟨⟨#[110, 111]⟩, by decide⟩
theorem ok_nl : EndsNl tOk := ⟨⟨#[111, 107]⟩, by decide⟩
theorem what_nl : EndsNl tWhat := ⟨⟨#[119, 104, 97, 116]⟩, by decide⟩
theorem orNo_nl (ps : List Pl) (n m s : Int) : EndsNl (orNo (conText ps n m s)) := by
  unfold orNo
  by_cases h : conOK ps n m s = true
  · rw [if_neg (conText_ne h), conText_yes h]
    exact EndsNl.app ⟨_, rfl⟩ _
  · have h : conOK ps n m s = false := by simpa using h
    rw [conText_no h, if_pos rfl]
    exact no_nl
theorem risk_nl (a b c : Int) : EndsNl (riskText a b c) := by
  unfold riskText
  split
  · exact no_nl
  · exact ⟨_, rfl⟩
theorem lineRes_nl (ps : List Pl) (ws : List ByteArray) : EndsNl (lineRes ps ws).2 := by
  unfold lineRes lineOf
  split
  · split
    · exact ok_nl
    · exact no_nl
  · split
    · exact ok_nl
    · split
      · exact orNo_nl _ _ _ _
      · split
        · exact orNo_nl _ _ _ _
        · split
          · exact orNo_nl _ _ _ _
          · split
            · exact risk_nl _ _ _
            · exact what_nl

/-! ### sizes -/
theorem conText_size (ps : List Pl) (n m s : Int) : (conText ps n m s).size ≤ 6000 := by
  by_cases h : conOK ps n m s = true
  · have hh := conOK_iff.1 h
    have hN := (fit_many hh.1).2.2
    obtain ⟨N, rfl⟩ : ∃ N : Nat, n = (N : Int) := ⟨n.toNat, by omega⟩
    have hl : (lotsOf N s.toNat).length = N := lotsOf_len N s.toNat
    have h1 := midText_size m hh.1 hl
    have h2 := headText_size ps (lotsOf N s.toNat) (sum_bounds hh.1) (by rw [hl]; omega)
    have h3 := ballotText_size [cWin ps (N : Int) m s] (by simp)
    have l1 : (⟨#[119, 105, 110, 110, 101, 114, 32]⟩ : ByteArray).size = 7 := rfl
    have l2 : (⟨#[10]⟩ : ByteArray).size = 1 := rfl
    rw [conText_yes h, ByteArray.size_append, ByteArray.size_append, endText, ByteArray.size_append, ByteArray.size_append, Int.toNat_natCast]
    omega
  · have h : conOK ps n m s = false := by simpa using h
    rw [conText_no h]
    exact Nat.zero_le _
theorem orNo_size (ps : List Pl) (n m s : Int) : (orNo (conText ps n m s)).size ≤ 6000 := by
  unfold orNo
  split
  · show (3 : Nat) ≤ 6000; omega
  · exact conText_size ps n m s
theorem riskText_size (a b c : Int) : (riskText a b c).size ≤ 100 := by
  have h1 := riskWays_bounds a b c
  have h2 := riskAll_bounds a b
  unfold riskText
  split
  · show (3 : Nat) ≤ 100; omega
  · have h3 := dec_size (n := (riskWays a b c).toNat) (by omega)
    have h4 := dec_size (n := (riskAll a b).toNat) (by omega)
    have l1 : tOf.size = 4 := rfl
    have l2 : tNl.size = 1 := rfl
    rw [ByteArray.size_append, ByteArray.size_append, ByteArray.size_append]
    omega
theorem lineRes_size (ps : List Pl) (ws : List ByteArray) : (lineRes ps ws).2.size ≤ 6000 := by
  have s1 : tOk.size = 3 := rfl
  have s2 : tNo.size = 3 := rfl
  have s3 : tWhat.size = 5 := rfl
  unfold lineRes lineOf
  split
  · split
    · show tOk.size ≤ 6000; omega
    · show tNo.size ≤ 6000; omega
  · split
    · show tOk.size ≤ 6000; omega
    · split
      · exact orNo_size _ _ _ _
      · split
        · exact orNo_size _ _ _ _
        · split
          · exact orNo_size _ _ _ _
          · split
            · have := riskText_size (num (word ws 1)) (num (word ws 2)) (num (word ws 3))
              show (riskText _ _ _).size ≤ 6000
              omega
            · show tWhat.size ≤ 6000; omega

/-- What the first lines come to. -/
structure Ran (ls : List ByteArray) : Prop where
  ok : StOK (runLines ls).1
  nl : (runLines ls).2 = ⟨#[]⟩ ∨ EndsNl (runLines ls).2
  size : (runLines ls).2.size ≤ 6000 * ls.length
theorem ran_nil : Ran [] := ⟨StOK.nil, .inl rfl, Nat.le_refl _⟩
theorem ran_snoc {ls : List ByteArray} {l : ByteArray} (h : Ran ls) (hl : l.size ≤ 400) : Ran (ls ++ [l]) := by
  have hw : ∀ p ∈ cut 32 l, p.size ≤ 400 := fun p hp => Nat.le_trans (cut_size hp) hl
  refine ⟨?_, ?_, ?_⟩
  · rw [runLines_snoc]; exact lineRes_ok h.ok hw
  · rw [runLines_snoc]; exact .inr ((lineRes_nl _ _).app _)
  · rw [runLines_snoc, runLine, ByteArray.size_append, List.length_append, Nat.mul_add]
    have h1 := lineRes_size (runLines ls).1 (cut 32 l)
    have h2 := h.size
    simp only [List.length_singleton]
    omega
theorem ran_all {ls : List ByteArray} (h : ∀ l ∈ ls, l.size ≤ 400) : Ran ls := by
  have key : ∀ k, k ≤ ls.length → Ran (ls.take k) := by
    intro k
    induction k with
    | zero => intro _; exact ran_nil
    | succ k ih =>
      intro hk
      have hx : ls[k]? = some ls[k] := List.getElem?_eq_getElem (by omega)
      rw [take_succ_of hx]
      exact ran_snoc (ih (by omega)) (h _ (List.getElem_mem _))
  have := key ls.length (Nat.le_refl _)
  rwa [List.take_length] at this
theorem ran_take {ls : List ByteArray} (h : ∀ l ∈ ls, l.size ≤ 400) (k : Nat) : Ran (ls.take k) := ran_all (fun l hl => h l (List.mem_of_mem_take hl))
theorem linesOf_size {t : ByteArray} (h : t.size ≤ 400) : ∀ l ∈ linesOf t, l.size ≤ 400 := fun l hl => Nat.le_trans (cut_size (List.dropLast_subset _ hl)) h
theorem linesOf_len (t : ByteArray) : (linesOf t).length + 1 = (cut 10 t).length := by
  have := cut_pos 10 t
  unfold linesOf
  rw [List.length_dropLast]
  omega
theorem tail_size {ps : List Pl} (h : StOK ps) : (tailText ps).size ≤ 100 := by
  have h1 := h.sum
  have h2 := h.few
  have h3 := dec_size (n := (sumPl ps).toNat) (by omega)
  have h4 := dec_size (n := ps.length) (by omega)
  have l1 : tBal.size = 8 := rfl
  have l2 : tPil.size = 7 := rfl
  have l3 : tNl.size = 1 := rfl
  unfold tailText
  rw [ByteArray.size_append, ByteArray.size_append, ByteArray.size_append, ByteArray.size_append]
  omega
theorem tail_pos (ps : List Pl) : 1 ≤ (tailText ps).size := by
  have l3 : tNl.size = 1 := rfl
  unfold tailText
  rw [ByteArray.size_append]
  omega
theorem exec_short {t : ByteArray} (h : t.size ≤ 400) : exec t = (runLines (linesOf t)).2 ++ tailText (runLines (linesOf t)).1 := by
  unfold exec
  rw [if_neg (by omega)]
theorem exec_long {t : ByteArray} (h : 400 < t.size) : exec t = tLong := by
  unfold exec
  rw [if_pos h]
theorem exec_size (t : ByteArray) : 1 ≤ (exec t).size ∧ (exec t).size ≤ 3000000 := by
  by_cases h : 400 < t.size
  · rw [exec_long h]
    exact ⟨by decide, by decide⟩
  · have h : t.size ≤ 400 := by omega
    have hr := ran_all (linesOf_size h)
    have h1 := hr.size
    have h2 := tail_size hr.ok
    have h3 := tail_pos (runLines (linesOf t)).1
    have h4 := linesOf_len t
    have h5 := cut_len 10 t
    rw [exec_short h, ByteArray.size_append]
    refine ⟨by omega, ?_⟩
    have : (linesOf t).length ≤ 400 := by omega
    omega

/-! ### complete lines -/
/-- A text of complete lines. -/
def Whole (x : ByteArray) : Prop := x = ⟨#[]⟩ ∨ EndsNl x
theorem nl_data (u : ByteArray) : (u ++ tNl).data.toList = u.data.toList ++ [10] := by rw [ByteArray.data_append, Array.toList_append]; rfl
theorem whole_cut {x : ByteArray} (h : Whole x) : ∃ q, cutL 10 x.data.toList = q ++ [[]] := by
  rcases h with rfl | ⟨u, rfl⟩
  · exact ⟨[], rfl⟩
  · have h1 := cutL_ne 10 u.data.toList
    obtain ⟨p, z, e⟩ : ∃ p z, cutL 10 u.data.toList = p ++ [z] := ⟨_, _, (List.dropLast_concat_getLast h1).symm⟩
    have := cutL_snoc (b := []) e (by simp)
    rw [List.append_nil, List.append_nil] at this
    refine ⟨p ++ [z], ?_⟩
    rw [nl_data, this]
    simp
theorem lines_whole {x b : ByteArray} (h : Whole x) (hb : (10 : UInt8) ∉ b.data.toList) : linesOf (x ++ b) = linesOf x := by
  obtain ⟨q, e⟩ := whole_cut h
  have h1 := cutL_app (b := b.data.toList) e
  rw [cutL_none hb] at h1
  unfold linesOf cut
  rw [ByteArray.data_append, Array.toList_append, h1, e]
  simp
theorem lines_more {x b : ByteArray} (h : Whole x) (hb : (10 : UInt8) ∉ b.data.toList) : linesOf (x ++ (b ++ tNl)) = linesOf x ++ [b] := by
  obtain ⟨q, e⟩ := whole_cut h
  have h1 := cutL_snoc (b := b.data.toList) e hb
  unfold linesOf cut
  rw [← ByteArray.append_assoc, nl_data, ByteArray.data_append, Array.toList_append, h1, e]
  simp
/-- Each text is complete lines and a rest without a line's end. -/
theorem whole_rest (t : ByteArray) : ∃ x b, t = x ++ b ∧ Whole x ∧ (10 : UInt8) ∉ b.data.toList := by
  have key : ∀ l : List UInt8, ∃ a b : List UInt8, l = a ++ b ∧ (a = [] ∨ ∃ a', a = a' ++ [10]) ∧ (10 : UInt8) ∉ b := by
    intro l
    induction l with
    | nil => exact ⟨[], [], rfl, .inl rfl, by simp⟩
    | cons c l ih =>
      obtain ⟨a, b, rfl, ha, hb⟩ := ih
      rcases ha with rfl | ⟨a', rfl⟩
      · by_cases hc : c = 10
        · subst hc
          exact ⟨[10], b, rfl, .inr ⟨[], rfl⟩, hb⟩
        · refine ⟨[], c :: b, rfl, .inl rfl, ?_⟩
          simp only [List.mem_cons, not_or]
          exact ⟨fun e => hc e.symm, hb⟩
      · exact ⟨c :: (a' ++ [10]), b, rfl, .inr ⟨c :: a', rfl⟩, hb⟩
  obtain ⟨a, b, e, ha, hb⟩ := key t.data.toList
  refine ⟨⟨a.toArray⟩, ⟨b.toArray⟩, ?_, ?_, by simpa using hb⟩
  · refine ba_inj ?_
    rw [ByteArray.data_append, Array.toList_append, e]
  · rcases ha with rfl | ⟨a', rfl⟩
    · exact .inl rfl
    · refine .inr ⟨⟨a'.toArray⟩, ba_inj ?_⟩
      rw [nl_data]
/-- The last line's own bytes. -/
theorem tail_line (ps : List Pl) : ∃ u, tailText ps = u ++ tNl ∧ (10 : UInt8) ∉ u.data.toList := by
  refine ⟨tBal ++ dec (sumPl ps).toNat ++ tPil ++ dec ps.length, rfl, ?_⟩
  have h : nls (tBal ++ dec (sumPl ps).toNat ++ tPil ++ dec ps.length) = 0 := by
    rw [nls_app, nls_app, nls_app, dec_nls, dec_nls]
    rfl
  exact List.count_eq_zero.1 h
/-- A script's complete lines give the same. -/
theorem exec_whole {x b : ByteArray} (h : Whole x) (hb : (10 : UInt8) ∉ b.data.toList) (hs : (x ++ b).size ≤ 400) : exec x = exec (x ++ b) := by
  have hs' : x.size ≤ 400 := by rw [ByteArray.size_append] at hs; omega
  rw [exec_short hs, exec_short hs', lines_whole h hb]
/-- One line more. -/
theorem exec_more {x b : ByteArray} (h : Whole x) (hb : (10 : UInt8) ∉ b.data.toList) (hs : (x ++ (b ++ tNl)).size ≤ 400) :
    exec (x ++ (b ++ tNl)) = (runLines (linesOf x)).2 ++ (lineRes (runLines (linesOf x)).1 (cut 32 b)).2 ++ tailText (lineRes (runLines (linesOf x)).1 (cut 32 b)).1 := by
  rw [exec_short hs, lines_more h hb, runLines_snoc]
  rfl
def tZzz : ByteArray := ⟨#[122, 122, 122]⟩
theorem line_zzz (ps : List Pl) : lineRes ps (cut 32 tZzz) = (ps, tWhat) := by
  have e : cut 32 tZzz = [tZzz] := by decide
  rw [e]
  exact line_what (t0 := tZzz) (by decide) (by decide) (by decide) (by decide) (by decide) (by decide)
theorem line_clear (ps : List Pl) : lineRes ps (cut 32 tClear) = ([], tOk) := by
  have e : cut 32 tClear = [tClear] := by decide
  rw [e]
  exact line_clr (t0 := tClear) rfl
end Go.Proofs.YtboobimpoddacaaGreatDoor

namespace Go.Proofs.YtboobimpoddacaaGreatDoor
open Go.RowKit
set_option linter.unusedVariables false

theorem c_isSample (n k : Int) (w : World) :
    Calls Tryz.prog 59 #[.int .i64 n, .int .i64 k] w fun e w' => e = .returned (.bool (sampleOK n k)) ∧ w = w' := by
  by_cases h1 : 1 ≤ n
  · by_cases h2 : n ≤ 20
    · by_cases h3 : 0 ≤ k
      · by_cases h4 : k ≤ n
        all_goals
          have hv : sampleOK n k = decide (k ≤ n) := by unfold sampleOK; rw [decide_eq_true h1, decide_eq_true h2, decide_eq_true h3]; rfl
          first | rw [decide_eq_true h4] at hv | rw [decide_eq_false h4] at hv
          go_enter Tryz.func59, Tryz.ntmps59
          go_wp2
          go_ret
          exact ⟨by first | rfl | exact ret_bool hv.symm, rfl⟩
      · have hv : sampleOK n k = false := by unfold sampleOK; rw [decide_eq_false h3]; simp
        go_enter Tryz.func59, Tryz.ntmps59
        go_wp2
        go_ret
        exact ⟨by first | rfl | exact ret_bool hv.symm, rfl⟩
    · have hv : sampleOK n k = false := by unfold sampleOK; rw [decide_eq_false h2]; simp
      go_enter Tryz.func59, Tryz.ntmps59
      go_wp2
      go_ret
      exact ⟨by first | rfl | exact ret_bool hv.symm, rfl⟩
  · have hv : sampleOK n k = false := by unfold sampleOK; rw [decide_eq_false h1]; simp
    go_enter Tryz.func59, Tryz.ntmps59
    go_wp2
    go_ret
    exact ⟨by first | rfl | exact ret_bool hv.symm, rfl⟩

theorem div_nat (Q R : Nat) (h0 : 0 < R) (h1 : Q ≤ 1000000000) : (Q : Int).tdiv (R : Int) = ((Q / R : Nat) : Int) ∧ (Q : Int) / (R : Int) = ((Q / R : Nat) : Int) ∧ IntKind.i64.wrap ((Q / R : Nat) : Int) = ((Q / R : Nat) : Int) := by
  refine ⟨by rw [Int.tdiv_eq_ediv_of_nonneg (by omega)]; rfl, rfl, ?_⟩
  have hd : ((Q / R : Nat) : Int) ≤ (Q : Int) := Int.ofNat_le.2 (Nat.div_le_self _ _)
  have h0' : 0 ≤ ((Q / R : Nat) : Int) := Int.natCast_nonneg _
  generalize ((Q / R : Nat) : Int) = D at hd h0'
  exact IntWalk.i64_in _ (by omega)

set_option maxHeartbeats 400000 in
theorem c_choose (n k : Nat) (hn : n ≤ 20) (hk20 : k ≤ 20) (w : World) :
    Calls Tryz.prog 61 #[.int .i64 n, .int .i64 k] w fun e w' => e = .returned (.int .i64 (bin n k : Nat)) ∧ w' = w := by
  by_cases hkn : n < k
  · have hkn' : (n : Int) < (k : Int) := by omega
    go_enter Tryz.func61, Tryz.ntmps61
    go_wp2
    go_ret
    exact ⟨ret_int (by unfold bin; rw [if_pos hkn]; rfl), rfl⟩
  · have hkn' : ¬ (n : Int) < (k : Int) := by omega
    have Hb := Lib.hid (fun j (hj : j ≤ n) => binI_le hn hj)
    go_enter Tryz.func61, Tryz.ntmps61
    go_wp2
    go_loop [5, 11] (fun v i => ∃ (j P : Nat), j ≤ k ∧ i = .int .i64 (j : Int) ∧ v = .int .i64 (P : Int) ∧ Hid (binI n j = P)) (fun _ i => k - (intOf i).toNat)
    case atStart => exact ⟨0, 1, Nat.zero_le _, rfl, rfl, Lib.hid rfl⟩
    case round =>
      obtain ⟨j, P, hj, rfl, rfl, hP⟩ := hrel
      by_cases hlt : j < k
      · have hj' : (j : Int) < (k : Int) := by omega
        have hj0 : (0 : Int) ≤ (j : Int) := by omega
        have hPb : P ≤ 184756 := by rw [← hP.out]; exact Hb.out j (by omega)
        obtain ⟨M, hM⟩ : ∃ M, n - j = M := ⟨_, rfl⟩
        have hM20 : M ≤ 20 := by omega
        have hQ := Nat.mul_le_mul hPb hM20
        obtain ⟨Q, hQe⟩ : ∃ Q, P * M = Q := ⟨_, rfl⟩
        rw [hQe] at hQ
        have w1 : IntKind.i64.wrap ((n : Int) - (j : Int)) = (M : Int) := by rw [IntWalk.i64_in _ (by omega)]; omega
        have w2 : IntKind.i64.wrap ((P : Int) * (M : Int)) = (Q : Int) := by
          have e : (P : Int) * (M : Int) = (Q : Int) := by rw [← hQe]; push_cast; rfl
          rw [e, IntWalk.i64_in _ (by omega)]
        have w3 : IntKind.i64.wrap ((j : Int) + 1) = ((j + 1 : Nat) : Int) := by rw [IntWalk.i64_in _ (by omega)]; omega
        obtain ⟨d1, d2, d3⟩ := div_nat Q (j + 1) (by omega) (by omega)
        obtain ⟨R, hR⟩ : ∃ R, Q / (j + 1) = R := ⟨_, rfl⟩
        rw [hR] at d1 d2 d3
        have hne : ((j + 1 : Nat) : Int) ≠ 0 := by omega
        have hfin : Hid (binI n (j + 1) = R) := Lib.hid (by rw [binI, hP.out, hM, hQe, hR])
        clear hM hQe hR
        obtain ⟨J, hJ⟩ : ∃ J : Nat, j + 1 = J := ⟨_, rfl⟩
        rw [hJ] at w3 d1 d2 hne hfin
        go_wp2
        go_round
        case rel => exact ⟨J, R, by omega, by simp, rfl, hfin⟩
        case measure => simp [intOf]; omega
      · obtain rfl : j = k := by omega
        go_wp2
        go_ret
        exact ⟨ret_int (by unfold bin; rw [if_neg hkn, hP.out]), rfl⟩

theorem c_l32Choose (n k : Nat) (hn : n ≤ 20) (hk20 : k ≤ 20) (w : World) :
    Calls Tryz.prog 73 #[.int .i64 n, .int .i64 k] w fun e w' => e = .returned (.int .i64 (bin n k : Nat)) ∧ w = w' := by
  by_cases hkn : n < k
  · have hv : inB (k : Int) 0 (n : Int) = false := by unfold inB; exact decide_eq_false (by omega)
    go_enter Tryz.func73, Tryz.ntmps73
    go_wp2_with fail
    refine (c_l6In _ _ _ _).mono ?_
    rintro e w1 ⟨rfl, rfl⟩
    rw [hv]
    go_wp2
    go_ret
    exact ⟨ret_int (by unfold bin; rw [if_pos hkn]; rfl), rfl⟩
  · have hv : inB (k : Int) 0 (n : Int) = true := by unfold inB; exact decide_eq_true (by omega)
    have Hb := Lib.hid (fun j (hj : (n - k) + j ≤ 20) => binS_le hj)
    have Hfin := Lib.hid (binS_eq hn (Nat.le_of_not_lt hkn))
    obtain ⟨D, hD⟩ : ∃ D, n - k = D := ⟨_, rfl⟩
    rw [hD] at Hb Hfin
    have w0 : IntKind.i64.wrap ((n : Int) - (k : Int)) = (D : Int) := by rw [IntWalk.i64_in _ (by omega)]; omega
    have w0' : (n : Int) - (k : Int) = (D : Int) := by omega
    go_enter Tryz.func73, Tryz.ntmps73
    go_wp2_with fail
    refine (c_l6In _ _ _ _).mono ?_
    rintro e w1 ⟨rfl, rfl⟩
    rw [hv]
    go_wp2
    go_loop [5, 6] (fun v i => ∃ (j P : Nat), j ≤ k ∧ i = .int .i64 ((j + 1 : Nat) : Int) ∧ v = .int .i64 (P : Int) ∧ Hid (binS D j = P)) (fun _ i => k + 1 - (intOf i).toNat)
    case atStart => exact ⟨0, 1, Nat.zero_le _, rfl, rfl, Lib.hid rfl⟩
    case round =>
      obtain ⟨j, P, hj, rfl, rfl, hP⟩ := hrel
      obtain ⟨J, hJ⟩ : ∃ J : Nat, j + 1 = J := ⟨_, rfl⟩
      rw [hJ]
      by_cases hlt : j < k
      · have hj' : (J : Int) ≤ (k : Int) := by omega
        have hPb : P ≤ 184756 := by rw [← hP.out]; exact Hb.out j (by omega)
        obtain ⟨M, hM⟩ : ∃ M, D + J = M := ⟨_, rfl⟩
        have hM20 : M ≤ 20 := by omega
        have hQ := Nat.mul_le_mul hPb hM20
        obtain ⟨Q, hQe⟩ : ∃ Q, P * M = Q := ⟨_, rfl⟩
        rw [hQe] at hQ
        have w1 : IntKind.i64.wrap ((D : Int) + (J : Int)) = (M : Int) := by rw [IntWalk.i64_in _ (by omega)]; omega
        have w2 : IntKind.i64.wrap ((P : Int) * (M : Int)) = (Q : Int) := by
          have e : (P : Int) * (M : Int) = (Q : Int) := by rw [← hQe]; push_cast; rfl
          rw [e, IntWalk.i64_in _ (by omega)]
        have w3 : IntKind.i64.wrap ((J : Int) + 1) = ((J + 1 : Nat) : Int) := by rw [IntWalk.i64_in _ (by omega)]; omega
        obtain ⟨d1, d2, d3⟩ := div_nat Q J (by omega) (by omega)
        obtain ⟨R, hR⟩ : ∃ R, Q / J = R := ⟨_, rfl⟩
        rw [hR] at d1 d2 d3
        have hne : (J : Int) ≠ 0 := by omega
        have hfin : Hid (binS D J = R) := Lib.hid (by rw [← hJ, binS, hP.out, hJ, hM, hQe, hR])
        clear hM hQe hR
        have hJk : J ≤ k := by omega
        clear hJ
        go_wp2
        go_round
        case rel => exact ⟨J, R, hJk, by simp, rfl, hfin⟩
        case measure => simp [intOf]; omega
      · obtain rfl : j = k := by omega
        have hj' : ¬ (J : Int) ≤ (j : Int) := by omega
        go_wp2
        go_ret
        exact ⟨ret_int (by unfold bin; rw [if_neg hkn, ← Hfin.out, hP.out]), rfl⟩

set_option maxHeartbeats 400000 in
theorem c_AuditWays (n W k : Nat) (least : Int) (hn1 : 1 ≤ n) (hn : n ≤ 20) (hW : W ≤ n) (hk : k ≤ n) (hl : least ≤ 999) (w : World) :
    Calls Tryz.prog 60 #[.int .i64 n, .int .i64 W, .int .i64 k, .int .i64 least] w fun e w' => e = .returned (.int .i64 (ways n W k least : Nat)) ∧ w' = w := by
  have hs : sampleOK (n : Int) (k : Int) = true := (sampleOK_iff _ _).2 ⟨by omega, by omega, by omega, by omega⟩
  have hW0 : ¬ (W : Int) < 0 := by omega
  have hW1 : ¬ (n : Int) < (W : Int) := by omega
  have hW2 : ¬ n < W := by omega
  have Hle := Lib.hid (fun j => waysFrom_le (k := k) (i0 := least.toNat) hn hW j)
  have Hone := Lib.hid (fun i => oneWay_le (k := k) (i := i) hn hW)
  obtain ⟨i0, hi0⟩ : ∃ i0, least.toNat = i0 := ⟨_, rfl⟩
  have Hi0 := Lib.hid hi0
  have hmax : max (0 : Int) least = (i0 : Int) := by omega
  have hmax' : (if (0 : Int) < least then least else 0) = (i0 : Int) := by split <;> omega
  rw [hi0] at Hle
  obtain ⟨V, hV⟩ : ∃ V, n - W = V := ⟨_, rfl⟩
  have HV := Lib.hid hV
  have wV : IntKind.i64.wrap ((n : Int) - (W : Int)) = (V : Int) := by rw [IntWalk.i64_in _ (by omega)]; omega
  have wV' : (n : Int) - (W : Int) = (V : Int) := by omega
  have hi999 : i0 ≤ 999 := by omega
  have hV20 : V ≤ 20 := by omega
  clear hi0 hV
  go_enter Tryz.func60, Tryz.ntmps60
  go_wp2_with fail
  refine (c_isSample _ _ _).mono ?_
  rintro e w1 ⟨rfl, rfl⟩
  rw [hs]
  go_wp2
  go_loop [9, 10] (fun v i => ∃ (j P : Nat), (j = 0 ∨ i0 + j ≤ k + 1) ∧ i = .int .i64 ((i0 + j : Nat) : Int) ∧ v = .int .i64 (P : Int) ∧ Hid (waysFrom n W k i0 j = P)) (fun _ i => k + 1 - (intOf i).toNat)
  case atStart => exact ⟨0, 0, .inl rfl, rfl, rfl, Lib.hid rfl⟩
  case round =>
    obtain ⟨j, P, hj, rfl, rfl, hP⟩ := hrel
    obtain ⟨J, hJ⟩ : ∃ J : Nat, i0 + j = J := ⟨_, rfl⟩
    rw [hJ]
    by_cases hlt : J ≤ k
    · have hj' : (J : Int) ≤ (k : Int) := by omega
      have hPb := Hle.out j
      rw [hP.out] at hPb
      have hOb := Hone.out J
      unfold oneWay at hOb
      rw [HV.out] at hOb
      obtain ⟨M, hM⟩ : ∃ M, k - J = M := ⟨_, rfl⟩
      rw [hM] at hOb
      have hM20 : M ≤ 20 := by omega
      have wM : IntKind.i64.wrap ((k : Int) - (J : Int)) = (M : Int) := by rw [IntWalk.i64_in _ (by omega)]; omega
      have wM' : (k : Int) - (J : Int) = (M : Int) := by omega
      have hcA := Lib.hid (c_choose W J (by omega) (by omega) w)
      have hcB := Lib.hid (c_choose V M hV20 hM20 w)
      obtain ⟨a, ha⟩ : ∃ a, bin W J = a := ⟨_, rfl⟩
      obtain ⟨b, hb⟩ : ∃ b, bin V M = b := ⟨_, rfl⟩
      rw [ha] at hcA hOb
      rw [hb] at hcB hOb
      obtain ⟨Q, hQ⟩ : ∃ Q, a * b = Q := ⟨_, rfl⟩
      rw [hQ] at hOb
      have w2 : IntKind.i64.wrap ((a : Int) * (b : Int)) = (Q : Int) := by
        have e : (a : Int) * (b : Int) = (Q : Int) := by rw [← hQ]; push_cast; rfl
        rw [e, IntWalk.i64_in _ (by omega)]
      have w3 : IntKind.i64.wrap ((P : Int) + (Q : Int)) = ((P + Q : Nat) : Int) := by rw [IntWalk.i64_in _ (by omega)]; omega
      have w4 : IntKind.i64.wrap ((J : Int) + 1) = ((J + 1 : Nat) : Int) := by rw [IntWalk.i64_in _ (by omega)]; omega
      have hfin : Hid (waysFrom n W k i0 (j + 1) = P + Q) := Lib.hid (by rw [waysFrom, hP.out, hJ, oneWay, HV.out, hM, ha, hb, hQ])
      have hJ1 : J + 1 = i0 + (j + 1) := by omega
      have HJ1 := Lib.hid hJ1
      clear hM ha hb hQ hJ hPb hOb hj hJ1 wM' wV'
      go_wp2_with fail
      refine hcA.out.mono ?_
      rintro e w1 ⟨rfl, rfl⟩
      go_wp2_with fail
      refine hcB.out.mono ?_
      rintro e w1 ⟨rfl, rfl⟩
      go_wp2
      go_round
      case rel => exact ⟨j + 1, P + Q, .inr (by have := HJ1.out; omega), by rw [← HJ1.out]; simp, by simp, hfin⟩
      case measure => simp [intOf]; omega
    · have hj' : ¬ (J : Int) ≤ (k : Int) := by omega
      go_wp2
      go_ret
      refine ⟨ret_int ?_, rfl⟩
      rw [ways, Hi0.out, ← hP.out]
      congr 2
      omega

set_option maxHeartbeats 400000 in
theorem c_l32Ways (n W k : Nat) (least : Int) (hn1 : 1 ≤ n) (hn : n ≤ 20) (hW : W ≤ n) (hk : k ≤ n) (hl : least ≤ 999) (w : World) :
    Calls Tryz.prog 72 #[.int .i64 n, .int .i64 W, .int .i64 k, .int .i64 least] w fun e w' => e = .returned (.int .i64 (ways n W k least : Nat)) ∧ w = w' := by
  have Hle := Lib.hid (fun j => waysFrom_le (k := k) (i0 := least.toNat) hn hW j)
  have Hone := Lib.hid (fun i => oneWay_le (k := k) (i := i) hn hW)
  obtain ⟨i0, hi0⟩ : ∃ i0, least.toNat = i0 := ⟨_, rfl⟩
  have Hi0 := Lib.hid hi0
  have hmax : max least (0 : Int) = (i0 : Int) := by omega
  have hmax' : (if least < 0 then (0 : Int) else least) = (i0 : Int) := by split <;> omega
  rw [hi0] at Hle
  obtain ⟨V, hV⟩ : ∃ V, n - W = V := ⟨_, rfl⟩
  have HV := Lib.hid hV
  have wV : IntKind.i64.wrap ((n : Int) - (W : Int)) = (V : Int) := by rw [IntWalk.i64_in _ (by omega)]; omega
  have hi999 : i0 ≤ 999 := by omega
  have hV20 : V ≤ 20 := by omega
  clear hi0 hV
  go_enter Tryz.func72, Tryz.ntmps72
  go_wp2
  go_loop [9, 10] (fun v i => ∃ (j P : Nat), (j = 0 ∨ i0 + j ≤ k + 1) ∧ i = .int .i64 ((i0 + j : Nat) : Int) ∧ v = .int .i64 (P : Int) ∧ Hid (waysFrom n W k i0 j = P)) (fun _ i => k + 1 - (intOf i).toNat)
  case atStart => exact ⟨0, 0, .inl rfl, rfl, rfl, Lib.hid rfl⟩
  case round =>
    obtain ⟨j, P, hj, rfl, rfl, hP⟩ := hrel
    obtain ⟨J, hJ⟩ : ∃ J : Nat, i0 + j = J := ⟨_, rfl⟩
    rw [hJ]
    by_cases hlt : J ≤ k
    · have hj' : (J : Int) ≤ (k : Int) := by omega
      have hPb := Hle.out j
      rw [hP.out] at hPb
      have hOb := Hone.out J
      unfold oneWay at hOb
      rw [HV.out] at hOb
      obtain ⟨M, hM⟩ : ∃ M, k - J = M := ⟨_, rfl⟩
      rw [hM] at hOb
      have hM20 : M ≤ 20 := by omega
      have wM : IntKind.i64.wrap ((k : Int) - (J : Int)) = (M : Int) := by rw [IntWalk.i64_in _ (by omega)]; omega
      have hcA := Lib.hid (c_l32Choose W J (by omega) (by omega) w)
      have hcB := Lib.hid (c_l32Choose V M hV20 hM20 w)
      obtain ⟨a, ha⟩ : ∃ a, bin W J = a := ⟨_, rfl⟩
      obtain ⟨b, hb⟩ : ∃ b, bin V M = b := ⟨_, rfl⟩
      rw [ha] at hcA hOb
      rw [hb] at hcB hOb
      obtain ⟨Q, hQ⟩ : ∃ Q, a * b = Q := ⟨_, rfl⟩
      rw [hQ] at hOb
      have w2 : IntKind.i64.wrap ((a : Int) * (b : Int)) = (Q : Int) := by
        have e : (a : Int) * (b : Int) = (Q : Int) := by rw [← hQ]; push_cast; rfl
        rw [e, IntWalk.i64_in _ (by omega)]
      have w3 : IntKind.i64.wrap ((P : Int) + (Q : Int)) = ((P + Q : Nat) : Int) := by rw [IntWalk.i64_in _ (by omega)]; omega
      have w4 : IntKind.i64.wrap ((J : Int) + 1) = ((J + 1 : Nat) : Int) := by rw [IntWalk.i64_in _ (by omega)]; omega
      have hfin : Hid (waysFrom n W k i0 (j + 1) = P + Q) := Lib.hid (by rw [waysFrom, hP.out, hJ, oneWay, HV.out, hM, ha, hb, hQ])
      have hJ1 : J + 1 = i0 + (j + 1) := by omega
      have HJ1 := Lib.hid hJ1
      clear hM ha hb hQ hJ hPb hOb hj hJ1
      go_wp2_with fail
      refine hcA.out.mono ?_
      rintro e w1 ⟨rfl, rfl⟩
      go_wp2_with fail
      refine hcB.out.mono ?_
      rintro e w1 ⟨rfl, rfl⟩
      go_wp2
      go_round
      case rel => exact ⟨j + 1, P + Q, .inr (by have := HJ1.out; omega), by rw [← HJ1.out]; simp, by simp, hfin⟩
      case measure => simp [intOf]; omega
    · have hj' : ¬ (J : Int) ≤ (k : Int) := by omega
      go_wp2
      go_ret
      refine ⟨ret_int ?_, rfl⟩
      rw [ways, Hi0.out, ← hP.out]
      congr 2
      omega

theorem half_nat (n : Nat) (h : n ≤ 20) : (n : Int).tdiv 2 = ((n / 2 : Nat) : Int) ∧ (n : Int) / 2 = ((n / 2 : Nat) : Int) ∧ IntKind.i64.wrap ((n / 2 : Nat) : Int) = ((n / 2 : Nat) : Int) := by
  refine ⟨by rw [Int.tdiv_eq_ediv_of_nonneg (by omega)]; rfl, rfl, ?_⟩
  exact IntWalk.i64_in _ (by omega)
theorem risk_yes {n k : Nat} {least : Int} (h : sampleOK (n : Int) (k : Int) = true) : riskWays n k least = (ways n (n / 2) k least : Nat) ∧ riskAll n k = (bin n k : Nat) := by
  unfold riskWays riskAll
  rw [if_pos h, if_pos h, Int.toNat_natCast, Int.toNat_natCast]
  exact ⟨rfl, rfl⟩
theorem risk_no {n k least : Int} (h : sampleOK n k = false) : riskWays n k least = -1 ∧ riskAll n k = -1 := by
  unfold riskWays riskAll
  rw [h]
  exact ⟨rfl, rfl⟩

set_option maxHeartbeats 400000 in
theorem c_impl_AuditRisk (n k least : Int) (hl : least ≤ 999) (w : World) :
    Calls Tryz.prog 38 #[.int .i64 n, .int .i64 k, .int .i64 least] w fun e w' => e = .returned (.tuple #[.int .i64 (riskWays n k least), .int .i64 (riskAll n k)]) ∧ w = w' := by
  by_cases hs : sampleOK n k = true
  · have hb := (sampleOK_iff n k).1 hs
    obtain ⟨N, rfl⟩ : ∃ N : Nat, n = (N : Int) := ⟨n.toNat, by omega⟩
    obtain ⟨K, rfl⟩ : ∃ K : Nat, k = (K : Int) := ⟨k.toNat, by omega⟩
    obtain ⟨r1, r2⟩ := risk_yes (least := least) hs
    rw [r1, r2]
    obtain ⟨d1, d2, d3⟩ := half_nat N (by omega)
    have hcA := Lib.hid (c_AuditWays N (N / 2) K least (by omega) (by omega) (by omega) (by omega) hl w)
    have hcB := Lib.hid (c_choose N K (by omega) (by omega) w)
    obtain ⟨H, hH⟩ : ∃ H, N / 2 = H := ⟨_, rfl⟩
    rw [hH] at d1 d2 d3 hcA ⊢
    have hNb : N ≤ 20 := by omega
    clear hH hb r1 r2
    go_enter Tryz.func38, Tryz.ntmps38
    go_wp2_with fail
    refine (c_isSample _ _ _).mono ?_
    rintro e w1 ⟨rfl, rfl⟩
    rw [hs]
    go_wp2_with fail
    refine hcA.out.mono ?_
    rintro e w1 ⟨rfl, rfl⟩
    go_wp2_with fail
    refine hcB.out.mono ?_
    rintro e w1 ⟨rfl, rfl⟩
    go_wp2
    go_ret2
    exact ⟨rfl, rfl⟩
  · have hs : sampleOK n k = false := by simpa using hs
    obtain ⟨r1, r2⟩ := risk_no (least := least) hs
    rw [r1, r2]
    clear r1 r2
    go_enter Tryz.func38, Tryz.ntmps38
    go_wp2_with fail
    refine (c_isSample _ _ _).mono ?_
    rintro e w1 ⟨rfl, rfl⟩
    rw [hs]
    go_wp2
    go_ret2
    exact ⟨rfl, rfl⟩

set_option maxHeartbeats 400000 in
theorem c_spec_AuditRisk (n k least : Int) (hl : least ≤ 999) (w : World) :
    Calls Tryz.prog 45 #[.int .i64 n, .int .i64 k, .int .i64 least] w fun e w' => e = .returned (.tuple #[.int .i64 (riskWays n k least), .int .i64 (riskAll n k)]) ∧ w = w' := by
  by_cases hs : sampleOK n k = true
  · have hb := (sampleOK_iff n k).1 hs
    obtain ⟨N, rfl⟩ : ∃ N : Nat, n = (N : Int) := ⟨n.toNat, by omega⟩
    obtain ⟨K, rfl⟩ : ∃ K : Nat, k = (K : Int) := ⟨k.toNat, by omega⟩
    obtain ⟨r1, r2⟩ := risk_yes (least := least) hs
    rw [r1, r2]
    obtain ⟨d1, d2, d3⟩ := half_nat N (by omega)
    have hcA := Lib.hid (c_l32Ways N (N / 2) K least (by omega) (by omega) (by omega) (by omega) hl w)
    have hcB := Lib.hid (c_l32Choose N K (by omega) (by omega) w)
    have i1 : inB (N : Int) 1 20 = true := by unfold inB; exact decide_eq_true (by omega)
    have i2 : inB (K : Int) 0 (N : Int) = true := by unfold inB; exact decide_eq_true (by omega)
    obtain ⟨H, hH⟩ : ∃ H, N / 2 = H := ⟨_, rfl⟩
    rw [hH] at d1 d2 d3 hcA ⊢
    have hNb : N ≤ 20 := by omega
    clear hH hb r1 r2 hs
    go_enter Tryz.func45, Tryz.ntmps45
    go_wp2_with fail
    refine (c_l6In _ _ _ _).mono ?_
    rintro e w1 ⟨rfl, rfl⟩
    rw [i1]
    go_wp2_with fail
    refine (c_l6In _ _ _ _).mono ?_
    rintro e w1 ⟨rfl, rfl⟩
    rw [i2]
    go_wp2_with fail
    refine hcA.out.mono ?_
    rintro e w1 ⟨rfl, rfl⟩
    go_wp2_with fail
    refine hcB.out.mono ?_
    rintro e w1 ⟨rfl, rfl⟩
    go_wp2
    go_ret2
    exact ⟨rfl, rfl⟩
  · have hs : sampleOK n k = false := by simpa using hs
    obtain ⟨r1, r2⟩ := risk_no (least := least) hs
    rw [r1, r2]
    by_cases h1 : 1 ≤ n ∧ n ≤ 20
    · have i1 : inB n 1 20 = true := by unfold inB; exact decide_eq_true h1
      have i2 : inB k 0 n = false := by
        unfold inB
        refine decide_eq_false (fun h2 => ?_)
        rw [(sampleOK_iff n k).2 ⟨h1.1, h1.2, h2.1, h2.2⟩] at hs
        cases hs
      clear r1 r2 hs h1
      go_enter Tryz.func45, Tryz.ntmps45
      go_wp2_with fail
      refine (c_l6In _ _ _ _).mono ?_
      rintro e w1 ⟨rfl, rfl⟩
      rw [i1]
      go_wp2_with fail
      refine (c_l6In _ _ _ _).mono ?_
      rintro e w1 ⟨rfl, rfl⟩
      rw [i2]
      go_wp2
      go_ret2
      exact ⟨rfl, rfl⟩
    · have i1 : inB n 1 20 = false := by unfold inB; exact decide_eq_false h1
      clear r1 r2 hs h1
      go_enter Tryz.func45, Tryz.ntmps45
      go_wp2_with fail
      refine (c_l6In _ _ _ _).mono ?_
      rintro e w1 ⟨rfl, rfl⟩
      rw [i1]
      go_wp2
      go_ret2
      exact ⟨rfl, rfl⟩
end Go.Proofs.YtboobimpoddacaaGreatDoor

namespace Go.Proofs.YtboobimpoddacaaGreatDoor
open Go.RowKit
set_option linter.unusedVariables false

theorem lineInfo : (Tryz.prog.info? 9).map (fun i => (i.zero, i.size, i.bytes)) = some (some (.string ByteArray.empty), 1, 16) := by kernel_rfl
theorem lineEl : Elem Tryz.prog 38 9 1 16 (.string ByteArray.empty) := ⟨Tryz.underlying38, info_parts lineInfo, rfl, by omega⟩
theorem ba_at {s : ByteArray} {k : Nat} (h : k < s.size) : s.data.toList[k]? = some s[k] := by
  rw [List.getElem?_eq_getElem (by simpa using h)]
  rfl
theorem ext_list (s : ByteArray) (f k : Nat) : (s.extract f k).data.toList = (s.data.toList.drop f).take (k - f) := by
  rw [Lib.extract_data]

/-! ### a text of three letters or fewer as a number -/
set_option maxHeartbeats 400000 in
theorem c_l51Number (s : ByteArray) (w : World) (hs : s.size ≤ 2000000) :
    Calls Tryz.prog 41 #[.string s] w fun e w' => e = .returned (.int .i64 (num s)) ∧ w = w' := by
  have hL : s.data.toList.length = s.size := Array.length_toList
  by_cases hsz : 1 ≤ s.size ∧ s.size ≤ 3
  · obtain ⟨h1, h3⟩ := hsz
    have hv : inB (s.size : Int) 1 3 = true := by unfold inB; exact decide_eq_true (by omega)
    have hp0 : 0 < s.size := by omega
    have hu0 : s[0].toNat < 256 := UInt8.toNat_lt _
    have h48 : s.data.toList[0]? = some 48 ↔ (s[0].toNat : Int) = 48 := by
      rw [ba_at hp0]
      constructor
      · intro e
        have := Option.some.inj e
        rw [this]
        rfl
      · intro e
        exact congrArg some (UInt8.toNat_inj.1 (by have : (48 : UInt8).toNat = 48 := rfl; omega))
    by_cases hz : 1 < s.size ∧ (s[0].toNat : Int) = 48
    · have hnum : Hid (num s = -1) := Lib.hid (by
        unfold num numL
        rw [if_neg]
        rintro ⟨_, _, h⟩
        exact h ⟨by omega, h48.2 hz.2⟩)
      obtain ⟨hz1, hz2⟩ := hz
      have hz1' : (1 : Int) < (s.size : Int) := by omega
      clear h48
      go_enter Tryz.func41, Tryz.ntmps41
      go_wp2_with fail
      refine (c_l6In _ _ _ _).mono ?_
      rintro e w1 ⟨rfl, rfl⟩
      rw [hv]
      go_wp2
      go_ret
      exact ⟨ret_int hnum.out.symm, rfl⟩
    · have hnum : Hid (num s = match Lib.decFrom 0 s.data.toList with | some n => (n : Int) | none => -1) := Lib.hid (by
        unfold num numL
        rw [if_pos ⟨by omega, by omega, fun h => hz ⟨by omega, h48.1 h.2⟩⟩]
        rfl)
      have Hz := Lib.hid hz
      have hsp : (s.size = 1) ∨ (1 < s.size ∧ ¬ (s[0].toNat : Int) = 48) := by omega
      have Hsp := Lib.hid hsp
      clear h48 hz hsp
      go_enter Tryz.func41, Tryz.ntmps41
      go_wp2_with fail
      refine (c_l6In _ _ _ _).mono ?_
      rintro e w1 ⟨rfl, rfl⟩
      rw [hv]
      rcases Hsp.out with hq | ⟨hq, hq2⟩
      all_goals
        (first | (have hq' : ¬ (1 : Int) < (s.size : Int) := by omega) | (have hq' : (1 : Int) < (s.size : Int) := by omega))
        go_wp2
        go_loop [3, 4] (fun v i => ∃ (k N : Nat), k ≤ s.size ∧ i = .int .i64 (k : Int) ∧ v = .int .i64 (N : Int) ∧ Hid (Lib.decFrom 0 (s.data.toList.take k) = some N)) (fun _ i => s.size - (intOf i).toNat)
        case atStart => exact ⟨0, 0, Nat.zero_le _, rfl, rfl, Lib.hid rfl⟩
        case round =>
          obtain ⟨k, N, hk, rfl, rfl, hN⟩ := hrel
          have hNb : N < 1000 := by
            have h1 := Lib.decFrom_lt _ 0 N hN.out
            have h2 : (s.data.toList.take k).length ≤ 3 := by rw [List.length_take]; omega
            have h3 : 10 ^ (s.data.toList.take k).length ≤ 10 ^ 3 := Nat.pow_le_pow_right (by decide) h2
            omega
          by_cases hlt : k < s.size
          · have hk' : (k : Int) < (s.size : Int) := by omega
            have hk0 : (0 : Int) ≤ (k : Int) := by omega
            have hu : s[k].toNat < 256 := UInt8.toNat_lt _
            have hat := Lib.hid (ba_at hlt)
            by_cases hd : 48 ≤ s[k].toNat ∧ s[k].toNat ≤ 57
            · have hdv : Lib.digitVal s[k] = some (s[k].toNat - 48) := by unfold Lib.digitVal; rw [if_pos hd]
              have hstep := Lib.hid (Lib.decFrom_take _ k 0 N s[k] _ hN.out hat.out hdv)
              obtain ⟨hd1, hd2⟩ := hd
              have ha : ¬ (s[k].toNat : Int) < 48 := by omega
              have hb : ¬ (57 : Int) < (s[k].toNat : Int) := by omega
              clear hdv
              obtain ⟨U, hU⟩ : ∃ U, s[k].toNat = U := ⟨_, rfl⟩
              rw [hU] at hd1 hd2 ha hb hstep hu
              have HU := Lib.hid hU
              have w1 : IntKind.u8.wrap ((U : Int) - 48) = ((U - 48 : Nat) : Int) := by rw [IntKind.wrap_u8]; omega
              have w2 : IntKind.i64.wrap (10 * (N : Int)) = ((N * 10 : Nat) : Int) := by rw [IntWalk.i64_in _ (by omega)]; omega
              have w3 : IntKind.i64.wrap (((N * 10 : Nat) : Int) + ((U - 48 : Nat) : Int)) = ((N * 10 + (U - 48) : Nat) : Int) := by rw [IntWalk.i64_in _ (by omega)]; omega
              obtain ⟨M, hM⟩ : ∃ M, N * 10 + (U - 48) = M := ⟨_, rfl⟩
              obtain ⟨M1, hM1⟩ : ∃ M1, N * 10 = M1 := ⟨_, rfl⟩
              obtain ⟨M2, hM2⟩ : ∃ M2, U - 48 = M2 := ⟨_, rfl⟩
              rw [hM] at hstep w3
              rw [hM1, hM2] at w3
              rw [hM1] at w2
              rw [hM2] at w1
              have w4 : IntKind.i64.wrap (M2 : Int) = (M2 : Int) := IntWalk.i64_in _ (by omega)
              have w5 : IntKind.i64.wrap (M : Int) = (M : Int) := IntWalk.i64_in _ (by omega)
              clear hM hM1 hM2
              go_wp2
              go_round
              case rel => exact ⟨k + 1, M, by omega, by go_num, rfl, hstep⟩
              case measure => simp [intOf]; omega
            · have hbad : Hid (num s = -1) := Lib.hid (by
                rw [hnum.out]
                cases hw : Lib.decFrom 0 s.data.toList with
                | none => rfl
                | some m =>
                  obtain ⟨d, hdd⟩ := Lib.digit_of_decFrom _ 0 m hw k _ hat.out
                  have := Lib.digitVal_eq hdd
                  exact absurd ⟨this.1, this.2.1⟩ hd)
              by_cases ha : (s[k].toNat : Int) < 48
              · go_wp2
                go_ret
                exact ⟨ret_int hbad.out.symm, rfl⟩
              · have hb : (57 : Int) < (s[k].toNat : Int) := by omega
                go_wp2
                go_ret
                exact ⟨ret_int hbad.out.symm, rfl⟩
          · obtain rfl : k = s.size := by omega
            go_wp2
            go_ret
            refine ⟨ret_int ?_, rfl⟩
            have h1 := hN.out
            rw [List.take_of_length_le (by omega)] at h1
            rw [hnum.out, h1]
  · have hv : inB (s.size : Int) 1 3 = false := by unfold inB; exact decide_eq_false (by omega)
    have hnum : Hid (num s = -1) := Lib.hid (by
      unfold num numL
      rw [if_neg]
      rintro ⟨h1, h2, _⟩
      exact hsz (by omega))
    go_enter Tryz.func41, Tryz.ntmps41
    go_wp2_with fail
    refine (c_l6In _ _ _ _).mono ?_
    rintro e w1 ⟨rfl, rfl⟩
    rw [hv]
    go_wp2
    go_ret
    exact ⟨ret_int hnum.out.symm, rfl⟩

/-! ### the pieces of a text -/
structure CutI (c : UInt8) (s : ByteArray) (k f : Nat) (ps : List ByteArray) : Prop where
  le : f ≤ k
  eq : cutL c s.data.toList = ps.map (·.data.toList) ++ cutL c (s.data.toList.drop f)
  no : c ∉ (s.data.toList.drop f).take (k - f)
  len : ps.length ≤ f
theorem CutI.start (c : UInt8) (s : ByteArray) : CutI c s 0 0 [] := ⟨Nat.le_refl _, by simp, by simp, Nat.le_refl _⟩
theorem CutI.hit {c : UInt8} {s : ByteArray} {k f : Nat} {ps : List ByteArray} (h : CutI c s k f ps) (hk : k < s.size) (hc : s[k] = c) : CutI c s (k + 1) (k + 1) (ps ++ [s.extract f k]) := by
  refine ⟨Nat.le_refl _, ?_, by simp, by rw [List.length_append, List.length_singleton]; have := h.len; have := h.le; omega⟩
  have e : s.data.toList.drop f = (s.data.toList.drop f).take (k - f) ++ c :: s.data.toList.drop (k + 1) := by
    have h1 : (s.data.toList.drop f).drop (k - f) = c :: s.data.toList.drop (k + 1) := by
      rw [List.drop_drop, show f + (k - f) = k by have := h.le; omega]
      have := drop_cons' (ba_at hk)
      rw [hc] at this
      exact this
    rw [← h1, List.take_append_drop]
  rw [h.eq, e, cutL_hit _ h.no, List.map_append, List.append_assoc, List.map_singleton, ext_list]
  rfl
theorem CutI.miss {c : UInt8} {s : ByteArray} {k f : Nat} {ps : List ByteArray} (h : CutI c s k f ps) (hk : k < s.size) (hc : s[k] ≠ c) : CutI c s (k + 1) f ps := by
  refine ⟨by have := h.le; omega, h.eq, ?_, h.len⟩
  have hle := h.le
  rw [show k + 1 - f = (k - f) + 1 by omega, take_succ_of (z := s[k]) (by rw [List.getElem?_drop, show f + (k - f) = k by omega]; exact ba_at hk), List.mem_append, List.mem_singleton]
  rintro (h1 | h1)
  · exact h.no h1
  · exact hc h1.symm
theorem CutI.done {c : UInt8} {s : ByteArray} {f : Nat} {ps : List ByteArray} (h : CutI c s s.size f ps) : cut c s = ps ++ [s.extract f s.size] := by
  have hn := h.no
  have hl : s.data.toList.length = s.size := Array.length_toList
  rw [List.take_of_length_le (by rw [List.length_drop]; omega)] at hn
  unfold cut
  rw [h.eq, cutL_none hn, List.map_append, List.map_map, List.map_singleton]
  congr 1
  · have key : ∀ xs : List ByteArray, xs.map ((fun l : List UInt8 => (⟨l.toArray⟩ : ByteArray)) ∘ fun x => x.data.toList) = xs := by
      intro xs
      induction xs with
      | nil => rfl
      | cons x xs ih => rw [List.map_cons, ih]; exact congrArg (· :: xs) (ba_list x)
    exact key ps
  · have : (s.data.toList.drop f) = (s.extract f s.size).data.toList := by rw [ext_list, List.take_of_length_le (by rw [List.length_drop]; omega)]
    rw [this, ba_list]

/-- Pieces in a new row. -/
def CutRes (c : UInt8) (s : ByteArray) (w : World) (e : Ending) (w' : World) : Prop :=
  ∃ A cp, e = .returned (.slice A (cut c s).length cp) ∧ w.grownBy w' none ∧ w'.ownsRow w.heap.size 9 1 (.slice A (cut c s).length cp) (cut c s).length ((cut c s).map Value.string)

set_option maxHeartbeats 1000000 in
theorem c_l51Cut (c : UInt8) (z : Int) (hz : z = (c.toNat : Int)) (s : ByteArray) (w : World) (hs : s.size ≤ 2000000) :
    Calls Tryz.prog 27 #[.string s, .int .u8 z] w (CutRes c s w) := by
  have hcu : c.toNat < 256 := UInt8.toNat_lt _
  have Hz := Lib.hid hz
  clear hz
  go_enter Tryz.func27, Tryz.ntmps27
  go_wp2
  go_loopw [5, 6, 7] (fun v fr i wr => ∃ (k f n : Nat) (A : Option Addr) (cp : Nat) (ps : List ByteArray), k ≤ s.size ∧ i = .int .i64 (k : Int) ∧ fr = .int .i64 (f : Int) ∧ v = .slice A n cp ∧ f ≤ k ∧ n ≤ f ∧ ps.length = n ∧
    wr.ownsRow w.heap.size 9 1 (.slice A n cp) n (ps.map Value.string) ∧ Below w.heap.size w wr ∧ Hid (CutI c s k f ps)) (fun _ _ i _ => s.size - (intOf i).toNat)
  case atStart => exact ⟨0, 0, 0, _, _, [], Nat.zero_le _, rfl, rfl, rfl, Nat.le_refl _, Nat.le_refl _, rfl, own_empty _ _ _ _ (Nat.le_refl _), (Below.refl _ _).alloc (Nat.le_refl _) _, Lib.hid (CutI.start c s)⟩
  case round =>
    obtain ⟨k, f, n, A, cp, ps, hk, rfl, rfl, rfl, hfk, hnf, hpl, hown, hb, hC⟩ := hrel
    have hbs := hb.size
    by_cases hlt : k < s.size
    · have hk' : (k : Int) < (s.size : Int) := by omega
      have hk0 : (0 : Int) ≤ (k : Int) := by omega
      have hf0 : (0 : Int) ≤ (f : Int) := by omega
      have hfk' : (f : Int) ≤ (k : Int) := by omega
      have hu : s[k].toNat < 256 := UInt8.toNat_lt _
      by_cases hc : s[k] = c
      · have hcz : (s[k].toNat : Int) = z := by rw [hc, Hz.out]
        have hC' := Lib.hid (hC.out.hit hlt hc)
        clear hc
        go_wp2_with (at_builtin; refine wpList_app lineEl rfl _ _ rfl w.heap.size n _ _ rfl hown [_] rfl rfl (by simp [Value.oneCell']) (by omega) (by omega) hbs ?_; intro A' c' w1 hown1 hb1 hg1 hat1)
        go_roundw
        case rel => exact ⟨k + 1, k + 1, n + 1, A', c', _, by omega, by go_num, by go_num, rfl, by omega, by omega, by rw [List.length_append, hpl]; rfl, by rw [List.map_append]; exact hown1, hb.trans hb1, hC'⟩
        case measure => simp [intOf]; omega
      · have hcz : ¬ (s[k].toNat : Int) = z := fun e => hc (UInt8.toNat_inj.1 (by have := Hz.out; omega))
        have hC' := Lib.hid (hC.out.miss hlt hc)
        go_wp2
        go_roundw
        case rel => exact ⟨k + 1, f, n, A, cp, ps, by omega, by go_num, rfl, rfl, by omega, hnf, hpl, hown, hb, hC'⟩
        case measure => simp [intOf]; omega
    · obtain rfl : k = s.size := by omega
      have hf0 : (0 : Int) ≤ (f : Int) := by omega
      have hfk' : (f : Int) ≤ (s.size : Int) := by omega
      have hfin := Lib.hid hC.out.done
      go_wp2_with (at_builtin; refine wpList_app lineEl rfl _ _ rfl w.heap.size n _ _ rfl hown [_] rfl rfl (by simp [Value.oneCell']) (by omega) (by omega) hbs ?_; intro A' c' w1 hown1 hb1 hg1 hat1)
      go_ret
      have hl : (cut c s).length = n + 1 := by rw [hfin.out, List.length_append, hpl]; rfl
      refine ⟨A', c', by rw [hl]; rfl, gb_of_below (hb.trans hb1) none, ?_⟩
      rw [hl, hfin.out, List.map_append]
      exact hown1

theorem list_len (t : ByteArray) : ∀ (k i : Nat) (r : List UInt8), t.size - i = k → (ByteArray.toList.loop t i r).length = r.length + k
  | 0, i, r, h => by
    rw [ByteArray.toList.loop, if_neg (by omega)]
    simp
  | k + 1, i, r, h => by
    rw [ByteArray.toList.loop, if_pos (by omega), list_len t k (i + 1) _ (by omega), List.length_cons]
    omega
theorem str_full {t : ByteArray} (h : t ≠ ⟨#[]⟩) : t.toList.isEmpty = false := by
  have h1 := list_len t (t.size - 0) 0 [] rfl
  have h2 : 0 < t.size := by
    rcases Nat.eq_zero_or_pos t.size with h0 | h0
    · exfalso
      refine h (ba_inj ?_)
      have : t.data.toList.length = 0 := by rw [Array.length_toList]; exact h0
      exact List.eq_nil_of_length_eq_zero this
    · exact h0
  cases hl : t.toList with
  | nil =>
    unfold ByteArray.toList at hl
    rw [hl] at h1
    simp at h1
    omega
  | cons a l => rfl
theorem c_l51Answer (t : ByteArray) (w : World) : Calls Tryz.prog 43 #[.string t] w fun e w' => e = .returned (.string (orNo t)) ∧ w = w' := by
  by_cases h : t = ⟨#[]⟩
  · subst h
    go_enter Tryz.func43, Tryz.ntmps43
    go_wp2
    go_ret
    exact ⟨rfl, rfl⟩
  · have hne := str_full h
    have ho : Hid (orNo t = t) := Lib.hid (by unfold orNo; rw [if_neg h])
    go_enter Tryz.func43, Tryz.ntmps43
    go_wp2
    go_ret
    exact ⟨ret_str ho.out.symm, rfl⟩
end Go.Proofs.YtboobimpoddacaaGreatDoor

namespace Go.Proofs.YtboobimpoddacaaGreatDoor
open Go.RowKit
set_option linter.unusedVariables false

/-- What the library's Split, Atoi and Itoa read. -/
structure Env (w : World) : Prop where
  tab : Tab w
  max : ∃ m, w.cell? ⟨0, 0, none⟩ = some (.int .i64 m)
  syn : ∃ t p, w.cell? ⟨3, 0, none⟩ = some (.iface t p)
  rng : ∃ t p, w.cell? ⟨4, 0, none⟩ = some (.iface t p)
theorem Env.grown {w w' : World} (h : Env w) (hg : w.grownBy w' none) : Env w' := by
  obtain ⟨m, h1⟩ := h.max
  obtain ⟨t, p, h2⟩ := h.syn
  obtain ⟨t', p', h3⟩ := h.rng
  exact ⟨h.tab.grown hg, ⟨m, gb_cell hg h1 (by simp)⟩, ⟨t, p, gb_cell hg h2 (by simp)⟩, ⟨t', p', gb_cell hg h3 (by simp)⟩⟩
theorem c_ItoaB (z : Nat) (w : World) (ht : Tab w) (hz : z ≤ 1000000000000) :
    Calls Tryz.prog 39 #[.int .i64 (z : Int)] w fun e w' => e = .returned (.string (dec z)) ∧ w.grownBy w' none := by
  refine (Tryz.strconv_Itoa (z : Int) (by omega) (by omega) w ht).mono ?_
  rintro e w' ⟨rfl, k, os, rfl⟩
  exact ⟨by rw [Lib.itoa_nonneg]; rfl, gb_of_below (Lib.below_grow _ _ (Nat.le_refl _) _ _) _⟩

/-- The pieces of a text, by the library. -/
theorem c_Split (c : UInt8) (s : ByteArray) (w : World) (hE : Env w) (hs : s.size ≤ 2000000) :
    Calls Tryz.prog 21 #[.string s, .string ⟨#[c]⟩] w fun e w' => e = .returned (.slice (some ⟨w.heap.size, 0, none⟩) (cut c s).length (cut c s).length) ∧ w' = w.alloc (.cells ((cut c s).map Value.string).toArray 9) := by
  obtain ⟨m, hm⟩ := hE.max
  refine (Tryz.strings_Split s ⟨#[c]⟩ m w (by omega) hm (Nat.le_refl 1)).mono ?_
  rintro e w' ⟨rfl, rfl⟩
  rw [split_count, splitB_cut]
  exact ⟨rfl, rfl⟩

theorem dec_eq_iff {z : Nat} {s : ByteArray} : dec z = s ↔ Lib.itoa (z : Int) = s.data.toList := by
  have h : Lib.itoa (z : Int) = Lib.decDigits z := by unfold Lib.itoa; rw [if_neg (by omega)]; rfl
  rw [h]
  unfold dec
  constructor
  · rintro rfl; simp
  · intro e; rw [e, ba_list]

set_option maxHeartbeats 400000 in
theorem c_scriptNumber (s : ByteArray) (w : World) (hE : Env w) (hs : s.size ≤ 2000000) :
    Calls Tryz.prog 34 #[.string s] w fun e w' => e = .returned (.int .i64 (num s)) ∧ w.grownBy w' none := by
  have hnum : num s = numI s.data.toList := (numI_eq _).symm
  cases ha : Lib.atoiAll s.data.toList
  · rename_i v
    have hv : Hid (num s = if v < 0 ∨ 999 < v ∨ Lib.itoa v ≠ s.data.toList then -1 else v) := Lib.hid (by rw [hnum]; unfold numI; rw [ha])
    have hcall := Lib.hid (Tryz.strconv_Atoi_ok s (by omega) v ha w)
    clear ha hnum
    have hgr : ∀ w' : World, (w' = w ∨ ∃ t, w' = Lib.bytesWorld w 5 t) → w.grownBy w' none := by
      rintro w' (rfl | ⟨t, rfl⟩)
      · exact gb_refl _ _
      · exact gb_of_below (Lib.bytesWorld_below _ _ _) _
    have Hgr := Lib.hid hgr
    clear hgr
    go_enter Tryz.func34, Tryz.ntmps34
    go_wp2_with fail
    refine hcall.out.mono ?_
    rintro e w1 ⟨rfl, hw1⟩
    have hg1 := Hgr.out _ hw1
    have hE1 := Lib.hid (hE.grown hg1)
    clear hw1 Hgr hcall
    by_cases h0 : v < 0
    · have hr : Hid (num s = -1) := Lib.hid (by rw [hv.out, if_pos (.inl h0)])
      go_wp2
      go_ret
      exact ⟨ret_int hr.out.symm, hg1⟩
    by_cases h9 : 999 < v
    · have hr : Hid (num s = -1) := Lib.hid (by rw [hv.out, if_pos (.inr (.inl h9))])
      go_wp2
      go_ret
      exact ⟨ret_int hr.out.symm, hg1⟩
    obtain ⟨z, rfl⟩ : ∃ z : Nat, v = (z : Int) := ⟨v.toNat, by omega⟩
    have hz : z ≤ 1000000 := by omega
    by_cases hd : dec z = s
    · have hr : Hid (num s = (z : Int)) := Lib.hid (by
        rw [hv.out, if_neg]
        rintro (h | h | h)
        · exact h0 h
        · exact h9 h
        · exact h (dec_eq_iff.1 hd))
      have Hd := Lib.hid hd
      have hss : (s.toList != s.toList) = false := by simp
      clear hd
      go_wp2_with fail
      refine (c_Itoa z _ hE1.out.tab hz).mono ?_
      rintro e w2 ⟨rfl, hg2⟩
      rw [Hd.out]
      go_wp2
      go_ret
      exact ⟨ret_int hr.out.symm, gb_trans hg1 hg2⟩
    · have hr : Hid (num s = -1) := Lib.hid (by
        rw [hv.out, if_pos]
        exact .inr (.inr (fun e => hd (dec_eq_iff.2 e))))
      have hne : ((dec z).toList == s.toList) = false := str_ne hd
      have hne' : ((dec z).toList != s.toList) = true := by simp only [bne, hne]; rfl
      clear hd
      go_wp2_with fail
      refine (c_Itoa z _ hE1.out.tab hz).mono ?_
      rintro e w2 ⟨rfl, hg2⟩
      go_wp2
      go_ret
      exact ⟨ret_int hr.out.symm, gb_trans hg1 hg2⟩
  · have hr : Hid (num s = -1) := Lib.hid (by rw [hnum]; unfold numI; rw [ha])
    obtain ⟨t, p, hsy⟩ := hE.syn
    have hcall := Lib.hid (Tryz.strconv_Atoi_syntax s (by omega) ha _ w hsy (.inr ⟨_, _, rfl⟩))
    clear ha hnum hsy
    go_enter Tryz.func34, Tryz.ntmps34
    go_wp2_with fail
    refine hcall.out.mono ?_
    rintro e w1 ⟨N, rfl, _, _, hb⟩
    clear hcall
    go_wp2
    go_ret
    exact ⟨ret_int hr.out.symm, gb_of_below hb _⟩
  · have hr : Hid (num s = -1) := Lib.hid (by rw [hnum]; unfold numI; rw [ha])
    obtain ⟨t, p, hsy⟩ := hE.rng
    have hcall := Lib.hid (Tryz.strconv_Atoi_range s (by omega) ha _ w hsy (.inr ⟨_, _, rfl⟩))
    clear ha hnum hsy
    go_enter Tryz.func34, Tryz.ntmps34
    go_wp2_with fail
    refine hcall.out.mono ?_
    rintro e w1 ⟨N, rfl, _, _, hb⟩
    clear hcall
    go_wp2
    go_ret
    exact ⟨ret_int hr.out.symm, gb_of_below hb _⟩

theorem c_textOrNo (t : ByteArray) (w : World) : Calls Tryz.prog 36 #[.string t] w fun e w' => e = .returned (.string (orNo t)) ∧ w = w' := by
  by_cases h : t = ⟨#[]⟩
  · subst h
    go_enter Tryz.func36, Tryz.ntmps36
    go_wp2
    go_ret
    exact ⟨rfl, rfl⟩
  · have hne := str_full h
    have ho : Hid (orNo t = t) := Lib.hid (by unfold orNo; rw [if_neg h])
    go_enter Tryz.func36, Tryz.ntmps36
    go_wp2
    go_ret
    exact ⟨ret_str ho.out.symm, rfl⟩
end Go.Proofs.YtboobimpoddacaaGreatDoor

namespace Go.Proofs.YtboobimpoddacaaGreatDoor
open Go.RowKit
set_option linter.unusedVariables false

/-- What a line leaves: the piles, the answer. -/
def LineRes (r : List Pl × ByteArray) (w : World) (e : Ending) (w' : World) : Prop :=
  ∃ A n c, e = .returned (.tuple #[.slice A n c, .string r.2]) ∧ Piles w' 0 A n c r.1 ∧ w.grownBy w' none
theorem LineRes.mk_ {r : List Pl × ByteArray} {ps : List Pl} {t : ByteArray} {w w' : World} {A : Option Addr} {n c : Nat} (hr : r = (ps, t)) (hP : Piles w' 0 A n c ps) (hg : w.grownBy w' none) : LineRes r w (.returned (.tuple #[.slice A n c, .string t])) w' := by
  subst hr
  exact ⟨A, n, c, rfl, hP, hg⟩

set_option maxHeartbeats 4000000 in
set_option maxRecDepth 100000 in
theorem c_l51LineOf (lo : Nat) (A : Option Addr) (n cap b off m cw : Nat) (ps : List Pl) (t0 t1 t2 t3 : ByteArray) (w : World) (h : Piles w lo A n cap ps) (hok : StOK ps) (h4 : 4 ≤ m)
    (c0 : w.cell? ⟨b, off, none⟩ = some (.string t0)) (c1 : w.cell? ⟨b, off + 1, none⟩ = some (.string t1)) (c2 : w.cell? ⟨b, off + 2, none⟩ = some (.string t2)) (c3 : w.cell? ⟨b, off + 3, none⟩ = some (.string t3))
    (s0 : t0.size ≤ 2000000) (s1 : t1.size ≤ 2000000) (s2 : t2.size ≤ 2000000) (s3 : t3.size ≤ 2000000) (hmc : m ≤ cw) (hcm : cw ≤ 9223372036854775807) :
    Calls Tryz.prog 28 #[.slice A n cap, .slice (some ⟨b, off, none⟩) m cw] w (LineRes (lineOf ps t0 t1 (num t1) (num t2) (num t3)) w) := by
  have hn := h.len
  have hfew := hok.few
  have hn12 : n ≤ 1999999 := by omega
  have Hs := Lib.hid hok.sizes
  have i0 : (0 : Int) < (m : Int) := by omega
  have i1 : (1 : Int) < (m : Int) := by omega
  have i2 : (2 : Int) < (m : Int) := by omega
  have i3 : (3 : Int) < (m : Int) := by omega
  obtain ⟨a, ha⟩ : ∃ a, num t1 = a := ⟨_, rfl⟩
  obtain ⟨z, hz⟩ : ∃ z, num t2 = z := ⟨_, rfl⟩
  obtain ⟨y, hy⟩ : ∃ y, num t3 = y := ⟨_, rfl⟩
  have hy9 : y ≤ 999 := by rw [← hy]; exact (num_range t3).2
  have hn1 := Lib.hid (fun x => c_l51Number t1 x s1)
  have hn2 := Lib.hid (fun x => c_l51Number t2 x s2)
  have hn3 := Lib.hid (fun x => c_l51Number t3 x s3)
  rw [ha] at hn1 ⊢
  rw [hz] at hn2 ⊢
  rw [hy] at hn3 ⊢
  clear ha hz hy hn hfew
  have hP0 := Lib.hid h
  by_cases e1 : t0 = tVote
  · have hl := Lib.hid (line_vote (ps := ps) (t1 := t1) (a := a) (b := z) (c := y) e1)
    have q1 : (t0.toList == [118, 111, 116, 101]) = true := by rw [lit_eq]; exact decide_eq_true e1
    clear e1
    obtain ⟨V, hV⟩ : ∃ V, addOK ps t1 z = V := ⟨_, rfl⟩
    have HV := Lib.hid hV
    have hca := Lib.hid (fun x hx => c_spec_PilesAdd lo A n cap ps t1 z x hx hn12 Hs.out s1)
    rw [hV] at hca
    clear hV
    go_enter Tryz.func28, Tryz.ntmps28
    go_wp2_with fail
    refine (hn1.out _).mono ?_
    rintro e w1 ⟨rfl, rfl⟩
    go_wp2_with fail
    refine (hn2.out _).mono ?_
    rintro e w1 ⟨rfl, rfl⟩
    go_wp2_with fail
    refine (hca.out _ hP0.out).mono ?_
    rintro e w1 ⟨B, c, rfl, hg1, ho1⟩
    have hP1 := Piles.mono (Sl.own ho1) (Nat.zero_le _)
    cases V with
    | true =>
      go_wp2
      go_ret2
      exact LineRes.mk_ (by rw [hl.out, HV.out]; rfl) hP1 hg1
    | false =>
      go_wp2
      go_ret2
      exact LineRes.mk_ (by rw [hl.out, HV.out]; rfl) ((hP0.out.keep0 hg1).mono (Nat.zero_le _)) hg1
  have q1 : (t0.toList == [118, 111, 116, 101]) = false := by rw [lit_eq]; exact decide_eq_false e1
  by_cases e2 : t0 = tClear
  · have hl := Lib.hid (line_clr (ps := ps) (t1 := t1) (a := a) (b := z) (c := y) e2)
    have q2 : (t0.toList == [99, 108, 101, 97, 114]) = true := by rw [lit_eq]; exact decide_eq_true e2
    clear e1 e2
    go_enter Tryz.func28, Tryz.ntmps28
    go_wp2_with fail
    refine (hn1.out _).mono ?_
    rintro e w1 ⟨rfl, rfl⟩
    go_wp2_with fail
    refine (hn2.out _).mono ?_
    rintro e w1 ⟨rfl, rfl⟩
    go_wp2
    go_ret2
    exact LineRes.mk_ hl.out (Piles.nil _ _ _ _ (Nat.zero_le _)) (gb_alloc (gb_refl _ _) _)
  have q2 : (t0.toList == [99, 108, 101, 97, 114]) = false := by rw [lit_eq]; exact decide_eq_false e2
  by_cases e3 : t0 = tPlur
  · have hl := Lib.hid (line_plur (ps := ps) (t1 := t1) (a := a) (b := z) (c := y) e3)
    have q3 : (t0.toList == [112, 108, 117, 114, 97, 108, 105, 116, 121]) = true := by rw [lit_eq]; exact decide_eq_true e3
    clear e1 e2 e3
    go_enter Tryz.func28, Tryz.ntmps28
    go_wp2_with fail
    refine (hn1.out _).mono ?_
    rintro e w1 ⟨rfl, rfl⟩
    go_wp2_with fail
    refine (hn2.out _).mono ?_
    rintro e w1 ⟨rfl, rfl⟩
    go_wp2_with fail
    refine (c_spec_ContestText lo A n cap ps a 1 z _ hP0.out Hs.out).mono ?_
    rintro e w1 ⟨rfl, hg1⟩
    go_wp2_with fail
    refine (c_l51Answer _ _).mono ?_
    rintro e w2 ⟨rfl, rfl⟩
    go_wp2
    go_ret2
    exact LineRes.mk_ hl.out ((hP0.out.keep0 hg1).mono (Nat.zero_le _)) hg1
  have q3 : (t0.toList == [112, 108, 117, 114, 97, 108, 105, 116, 121]) = false := by rw [lit_eq]; exact decide_eq_false e3
  by_cases e4 : t0 = tRun
  · have hl := Lib.hid (line_run (ps := ps) (t1 := t1) (a := a) (b := z) (c := y) e4)
    have q4 : (t0.toList == [114, 117, 110, 111, 102, 102]) = true := by rw [lit_eq]; exact decide_eq_true e4
    clear e1 e2 e3 e4
    go_enter Tryz.func28, Tryz.ntmps28
    go_wp2_with fail
    refine (hn1.out _).mono ?_
    rintro e w1 ⟨rfl, rfl⟩
    go_wp2_with fail
    refine (hn2.out _).mono ?_
    rintro e w1 ⟨rfl, rfl⟩
    go_wp2_with fail
    refine (c_spec_ContestText lo A n cap ps a 2 z _ hP0.out Hs.out).mono ?_
    rintro e w1 ⟨rfl, hg1⟩
    go_wp2_with fail
    refine (c_l51Answer _ _).mono ?_
    rintro e w2 ⟨rfl, rfl⟩
    go_wp2
    go_ret2
    exact LineRes.mk_ hl.out ((hP0.out.keep0 hg1).mono (Nat.zero_le _)) hg1
  have q4 : (t0.toList == [114, 117, 110, 111, 102, 102]) = false := by rw [lit_eq]; exact decide_eq_false e4
  by_cases e5 : t0 = tPairs
  · have hl := Lib.hid (line_pairs (ps := ps) (t1 := t1) (a := a) (b := z) (c := y) e5)
    have q5 : (t0.toList == [112, 97, 105, 114, 115]) = true := by rw [lit_eq]; exact decide_eq_true e5
    clear e1 e2 e3 e4 e5
    go_enter Tryz.func28, Tryz.ntmps28
    go_wp2_with fail
    refine (hn1.out _).mono ?_
    rintro e w1 ⟨rfl, rfl⟩
    go_wp2_with fail
    refine (hn2.out _).mono ?_
    rintro e w1 ⟨rfl, rfl⟩
    go_wp2_with fail
    refine (c_spec_ContestText lo A n cap ps a 3 z _ hP0.out Hs.out).mono ?_
    rintro e w1 ⟨rfl, hg1⟩
    go_wp2_with fail
    refine (c_l51Answer _ _).mono ?_
    rintro e w2 ⟨rfl, rfl⟩
    go_wp2
    go_ret2
    exact LineRes.mk_ hl.out ((hP0.out.keep0 hg1).mono (Nat.zero_le _)) hg1
  have q5 : (t0.toList == [112, 97, 105, 114, 115]) = false := by rw [lit_eq]; exact decide_eq_false e5
  by_cases e6 : t0 = tRisk
  · have hl := Lib.hid (line_risk (ps := ps) (t1 := t1) (a := a) (b := z) (c := y) e6)
    have q6 : (t0.toList == [114, 105, 115, 107]) = true := by rw [lit_eq]; exact decide_eq_true e6
    clear e1 e2 e3 e4 e5 e6
    have hb1 := riskWays_bounds a z y
    have hb2 := riskAll_bounds a z
    have hrt : riskText a z y = if riskWays a z y < 0 then tNo else dec (riskWays a z y).toNat ++ tOf ++ dec (riskAll a z).toNat ++ tNl := rfl
    have hpos : 0 ≤ riskWays a z y → 0 ≤ riskAll a z := by
      unfold riskWays riskAll
      split
      · intro _; omega
      · intro h; omega
    have hcr := Lib.hid (fun x => c_spec_AuditRisk a z y hy9 x)
    obtain ⟨W, hW⟩ : ∃ W, riskWays a z y = W := ⟨_, rfl⟩
    obtain ⟨V, hV⟩ : ∃ V, riskAll a z = V := ⟨_, rfl⟩
    rw [hW] at hb1 hrt hpos hcr
    rw [hV] at hb2 hrt hpos hcr
    have Hrt := Lib.hid hrt
    clear hrt hW hV
    go_enter Tryz.func28, Tryz.ntmps28
    go_wp2_with fail
    refine (hn1.out _).mono ?_
    rintro e w1 ⟨rfl, rfl⟩
    go_wp2_with fail
    refine (hn2.out _).mono ?_
    rintro e w1 ⟨rfl, rfl⟩
    go_wp2_with fail
    refine (hn3.out _).mono ?_
    rintro e w1 ⟨rfl, rfl⟩
    go_wp2_with fail
    refine (hcr.out _).mono ?_
    rintro e w1 ⟨rfl, rfl⟩
    by_cases hneg : W < 0
    · go_wp2
      go_ret2
      exact LineRes.mk_ (by rw [hl.out, Hrt.out, if_pos hneg]; rfl) (hP0.out.mono (Nat.zero_le _)) (gb_refl _ _)
    · obtain ⟨X, rfl⟩ : ∃ X : Nat, W = (X : Int) := ⟨W.toNat, by omega⟩
      obtain ⟨Y, rfl⟩ : ∃ Y : Nat, V = (Y : Int) := ⟨V.toNat, by have := hpos (by omega); omega⟩
      have hrt := Hrt.out
      rw [if_neg hneg, Int.toNat_natCast, Int.toNat_natCast] at hrt
      have z1 := dec_size (n := X) (by omega)
      have z2 := dec_size (n := Y) (by omega)
      have d1 := Lib.hid (fun x => c_l6Dec X (by omega) x)
      have d2 := Lib.hid (fun x => c_l6Dec Y (by omega) x)
      obtain ⟨D1, hD1⟩ : ∃ D, dec X = D := ⟨_, rfl⟩
      obtain ⟨D2, hD2⟩ : ∃ D, dec Y = D := ⟨_, rfl⟩
      rw [hD1] at d1 z1 hrt
      rw [hD2] at d2 z2 hrt
      obtain ⟨T1, hT1⟩ : ∃ T, D1 ++ tOf = T := ⟨_, rfl⟩
      obtain ⟨T2, hT2⟩ : ∃ T, T1 ++ D2 = T := ⟨_, rfl⟩
      obtain ⟨T3, hT3⟩ : ∃ T, T2 ++ tNl = T := ⟨_, rfl⟩
      rw [hT1, hT2, hT3] at hrt
      have l1 : tOf.size = 4 := rfl
      have l2 : tNl.size = 1 := rfl
      have y1 : T1.size = D1.size + 4 := by rw [← hT1, ByteArray.size_append, l1]
      have y2 : T2.size = T1.size + D2.size := by rw [← hT2, ByteArray.size_append]
      have y3 : T3.size = T2.size + 1 := by rw [← hT3, ByteArray.size_append, l2]
      have a1 := add_str _ _ _ hT1 (by omega)
      have a2 := add_str _ _ _ hT2 (by omega)
      have a3 := add_str _ _ _ hT3 (by omega)
      unfold tOf at a1
      unfold tNl at a3
      have hrt := Lib.hid hrt
      clear hD1 hD2 hT1 hT2 hT3 z1 z2 y1 y2 y3 l1 l2
      go_wp2_with fail
      refine (d1.out _).mono ?_
      rintro e w1 ⟨rfl, hg1⟩
      go_wp2_with fail
      refine (d2.out _).mono ?_
      rintro e w2 ⟨rfl, hg2⟩
      go_wp2
      go_ret2
      exact LineRes.mk_ (by rw [hl.out, hrt.out]) ((hP0.out.keep0 (gb_trans hg1 hg2)).mono (Nat.zero_le _)) (gb_trans hg1 hg2)
  have q6 : (t0.toList == [114, 105, 115, 107]) = false := by rw [lit_eq]; exact decide_eq_false e6
  have hl := Lib.hid (line_what (ps := ps) (t1 := t1) (a := a) (b := z) (c := y) e1 e2 e3 e4 e5 e6)
  clear e1 e2 e3 e4 e5 e6
  go_enter Tryz.func28, Tryz.ntmps28
  go_wp2_with fail
  refine (hn1.out _).mono ?_
  rintro e w1 ⟨rfl, rfl⟩
  go_wp2_with fail
  refine (hn2.out _).mono ?_
  rintro e w1 ⟨rfl, rfl⟩
  go_wp2
  go_ret2
  exact LineRes.mk_ hl.out (hP0.out.mono (Nat.zero_le _)) (gb_refl _ _)
end Go.Proofs.YtboobimpoddacaaGreatDoor

namespace Go.Proofs.YtboobimpoddacaaGreatDoor
open Go.RowKit
set_option linter.unusedVariables false

theorem c_l51Line (lo lo' : Nat) (A B : Option Addr) (n cap m cw : Nat) (ps : List Pl) (ws : List ByteArray) (w : World) (h : Piles w lo A n cap ps) (hok : StOK ps) (hW : Strs w lo' B m cw ws) (h4 : 4 ≤ m) (hs : ∀ p ∈ ws, p.size ≤ 2000000) :
    Calls Tryz.prog 28 #[.slice A n cap, .slice B m cw] w (LineRes (lineRes ps ws) w) := by
  have hle := Sl.le hW
  have hmx := Sl.max hW
  have hl := hW.len
  obtain ⟨b, off, rfl, _, _, hc⟩ := hW.2.2.ex (by omega)
  have key : ∀ k, k < 4 → w.cell? ⟨b, off + k, none⟩ = some (.string (word ws k)) := by
    intro k hk
    refine hc k _ ?_
    rw [List.getElem?_map]
    unfold word
    rw [List.getElem?_eq_getElem (by omega)]
    rfl
  have key0 := key 0 (by omega)
  rw [Nat.add_zero] at key0
  exact c_l51LineOf lo A n cap b off m cw ps _ _ _ _ w h hok h4 key0 (key 1 (by omega)) (key 2 (by omega)) (key 3 (by omega)) (word_size hs 0) (word_size hs 1) (word_size hs 2) (word_size hs 3) hle hmx
theorem runLines_step {ls : List ByteArray} {k : Nat} {l : ByteArray} (h : ls[k]? = some l) : runLines (ls.take (k + 1)) = ((lineRes (runLines (ls.take k)).1 (cut 32 l)).1, (runLines (ls.take k)).2 ++ (lineRes (runLines (ls.take k)).1 (cut 32 l)).2) := by
  rw [take_succ_of h, runLines_snoc]
  rfl
theorem line_at {t : ByteArray} {k : Nat} {l : ByteArray} (h : (cut 10 t)[k]? = some l) (hk : k + 1 < (cut 10 t).length) : (linesOf t)[k]? = some l := by
  unfold linesOf
  rw [List.getElem?_dropLast, if_pos (by omega)]
  exact h
theorem tail_app (o D1 D2 : ByteArray) : o ++ tBal ++ D1 ++ tPil ++ D2 ++ tNl = o ++ (tBal ++ D1 ++ tPil ++ D2 ++ tNl) := by simp only [ByteArray.append_assoc]

set_option maxHeartbeats 4000000 in
set_option maxRecDepth 100000 in
theorem c_spec_Execute (t : ByteArray) (w : World) (ht : t.size ≤ 2000000) :
    Calls Tryz.prog 14 #[.string t] w fun e w' => e = .returned (.string (exec t)) ∧ w.grownBy w' none := by
  by_cases h4 : 400 < t.size
  · have hx := Lib.hid (exec_long h4)
    have h4' : (400 : Int) < (t.size : Int) := by omega
    go_enter Tryz.func14, Tryz.ntmps14
    go_wp2
    go_ret
    exact ⟨ret_str hx.out.symm, gb_refl _ _⟩
  have h400 : t.size ≤ 400 := by omega
  have h4' : ¬ (400 : Int) < (t.size : Int) := by omega
  have hx := Lib.hid (exec_short h400)
  have hls := Lib.hid (linesOf_size h400)
  have hlen := linesOf_len t
  have hcl := cut_len 10 t
  obtain ⟨m, hm⟩ : ∃ m, (cut 10 t).length = m := ⟨_, rfl⟩
  have Hm := Lib.hid hm
  have hll := Lib.hid hlen
  rw [hm] at hcl hll
  have hm401 : m ≤ 401 := by omega
  have hm1 : 1 ≤ m := by have := cut_pos 10 t; omega
  have hcut := Lib.hid (fun x => c_l51Cut 10 10 rfl t x ht)
  unfold CutRes at hcut
  rw [hm] at hcut
  have hsz := Lib.hid (fun p (hp : p ∈ cut 10 t) => Nat.le_trans (cut_size hp) h400)
  clear hm hlen hcl h4
  go_enter Tryz.func14, Tryz.ntmps14
  go_wp2_with fail
  refine (hcut.out _).mono ?_
  rintro e w1 ⟨B, cB, rfl, hg1, ho1⟩
  have hL1 : Strs w1 _ B m cB (cut 10 t) := Sl.own ho1
  have hG1 : w.grownBy w1 none := gb_trans (gb_alloc (gb_refl _ _) _) hg1
  have hP1 : Piles w1 0 (some ⟨w.heap.size, 0, none⟩) 0 0 [] := Piles.nil _ _ _ _ (Nat.zero_le _)
  have hle := Sl.le hL1
  have hmx := Sl.max hL1
  clear ho1 hg1
  go_wp2
  go_loopw [3, 4, 6] (fun v ov i wr => ∃ (k n c : Nat) (A : Option Addr) (o : ByteArray), k + 1 ≤ m ∧ i = .int .i64 (k : Int) ∧ v = .slice A n c ∧ ov = .string o ∧ o.size ≤ 6000 * k ∧ w1.grownBy wr none ∧
    Piles wr 0 A n c (runLines ((linesOf t).take k)).1 ∧ Hid (o = (runLines ((linesOf t).take k)).2)) (fun _ _ i _ => m - (intOf i).toNat)
  case atStart => exact ⟨0, 0, 0, _, _, by omega, rfl, rfl, rfl, Nat.le_refl _, gb_refl _ _, hP1, Lib.hid rfl⟩
  case round =>
    obtain ⟨k, n, c, A, o, hk, rfl, rfl, rfl, hos, hgr, hP, hO⟩ := hrel
    have hran := ran_take hls.out k
    by_cases hlt : k + 1 < m
    · obtain ⟨b, off, l, rfl, hl, hcell⟩ := Strs.at_ (hL1.keep0 hgr) (k := k) (by omega)
      have hlat := Lib.hid (line_at hl.out (by rw [Hm.out]; exact hlt))
      have hl4 : l.size ≤ 400 := hsz.out l (List.mem_of_getElem? hl.out)
      have hstep := Lib.hid (runLines_step hlat.out)
      have hok := Lib.hid hran.ok
      obtain ⟨ps, hps⟩ : ∃ ps, (runLines ((linesOf t).take k)).1 = ps := ⟨_, rfl⟩
      rw [hps] at hP hstep hok
      have hps := Lib.hid hps
      have hlk : (k : Int) + 1 < (m : Int) := by omega
      have hlk' : (k : Int) < (m : Int) := by omega
      have hk0 : (0 : Int) ≤ (k : Int) := by omega
      have w3 : IntKind.i64.wrap ((k : Int) + 1) = (k : Int) + 1 := IntWalk.i64_in _ (by omega)
      have hw2 := Lib.hid (fun x => c_l51Cut 32 32 rfl l x (by omega))
      unfold CutRes at hw2
      have hws : ∀ p ∈ cut 32 l, p.size ≤ 400 := fun p hp => Nat.le_trans (cut_size hp) hl4
      have hcp := cut_pos 32 l
      have hcl := cut_len 32 l
      have hpad := Lib.hid (lineRes_pad ps (cut 32 l) 3)
      have hsr := lineRes_size ps (cut 32 l)
      obtain ⟨ws, hwe⟩ : ∃ ws, cut 32 l = ws := ⟨_, rfl⟩
      rw [hwe] at hw2 hws hcp hcl hpad hsr hstep
      have hws' : Hid (∀ p ∈ ws ++ List.replicate 3 (⟨#[]⟩ : ByteArray), p.size ≤ 2000000) := Lib.hid (fun p hp => by
        rcases List.mem_append.1 hp with hp | hp
        · have := hws p hp; omega
        · rw [List.eq_of_mem_replicate hp]; exact Nat.zero_le _)
      obtain ⟨q, hq⟩ : ∃ q, ws.length = q := ⟨_, rfl⟩
      have hq' := Lib.hid hq
      rw [hq] at hw2 hcp hcl
      have hq401 : q ≤ 401 := by omega
      clear hwe hws hcl hran hq
      obtain ⟨r1, r2, hr⟩ : ∃ r1 r2, lineRes ps ws = (r1, r2) := ⟨_, _, rfl⟩
      rw [hr] at hpad hsr hstep
      have hrs : r2.size ≤ 6000 := hsr
      have hline := Lib.hid (fun lo' C m' cw x hx hW h4' => c_l51Line 0 lo' A C n c m' cw ps _ x hx hok.out hW h4' hws'.out)
      rw [hpad.out] at hline
      obtain ⟨O, hOe⟩ : ∃ O, o ++ r2 = O := ⟨_, rfl⟩
      have hOs : O.size ≤ 6000 * (k + 1) := by rw [← hOe, ByteArray.size_append]; omega
      have ha := add_str _ _ _ hOe (by omega)
      have hfin : Hid ((runLines ((linesOf t).take (k + 1))).1 = r1 ∧ O = (runLines ((linesOf t).take (k + 1))).2) := Lib.hid (by
        rw [hstep.out, ← hO.out]
        exact ⟨rfl, hOe.symm⟩)
      clear hOe hr hsr
      go_wp2_with fail
      refine (hw2.out _).mono ?_
      rintro e w2 ⟨C, cC, rfl, hg2, ho2⟩
      have hga := gb_alloc hg2 (.cells #[.string ⟨#[]⟩, .string ⟨#[]⟩, .string ⟨#[]⟩] 9)
      have hoa := own_below ho2 (gb_alloc (gb_refl w2 none) (.cells #[.string ⟨#[]⟩, .string ⟨#[]⟩, .string ⟨#[]⟩] 9))
      have hBa := Blk.new w2 9 #[.string ⟨#[]⟩, .string ⟨#[]⟩, .string ⟨#[]⟩]
      have hsa := Sl.own (own_of_blk (lo := 0) (size := 1) (n := 3) hBa rfl (by omega) (Nat.zero_le _))
      have hza := hga.size
      clear hg2 ho2 hBa
      go_wp2_with (at_builtin; refine wpList_appAll lineEl rfl _ _ rfl _ _ q 3 3 _ _ _ _ rfl hoa rfl hsa (by simp [Value.oneCell']) (by omega) (by omega) hza ?_; intro D d w3 hown3 hb3 hg3 hat3)
      have hg3' : wr.grownBy w3 none := gb_of_below ((gb_below hga).trans hb3) none
      have hS3 : Strs w3 wr.heap.size D (q + 3) d (ws ++ List.replicate 3 ⟨#[]⟩) := by
        have := Sl.own hown3
        unfold Strs
        rw [List.map_append]
        exact this
      refine (hline.out _ _ _ _ _ (hP.keep0 hg3') hS3 (by omega)).mono ?_
      rintro e w4 ⟨A4, n4, c4, rfl, hP4, hg4⟩
      have hG4 := gb_trans (gb_trans hgr hg3') hg4
      simp only at hP4
      clear hat3 hg3 hb3 hown3 hS3 hg4 hg3' hga hoa hsa hza
      go_wp2
      go_roundw
      case rel => exact ⟨k + 1, n4, c4, A4, O, by omega, by go_num, rfl, rfl, hOs, hG4, by rw [hfin.out.1]; exact hP4, Lib.hid hfin.out.2⟩
      case measure => simp [intOf]; omega
    · have hkm : k + 1 = m := by omega
      have hlk : ¬ (k : Int) + 1 < (m : Int) := by omega
      have w3 : IntKind.i64.wrap ((k : Int) + 1) = (k : Int) + 1 := IntWalk.i64_in _ (by omega)
      have hall : (linesOf t).take k = linesOf t := List.take_of_length_le (by have := hll.out; omega)
      rw [hall] at hP hO hran
      have hx' := hx.out
      rw [← hO.out] at hx'
      unfold tailText at hx'
      obtain ⟨ps, hps⟩ : ∃ ps, (runLines (linesOf t)).1 = ps := ⟨_, rfl⟩
      have hok := hran.ok
      rw [hps] at hP hx' hok
      have hsum := hok.sum
      have hfew := hok.few
      have hpn := hP.len
      have hmany := Lib.hid hok.many
      obtain ⟨X, hX⟩ : ∃ X : Nat, sumPl ps = (X : Int) := ⟨(sumPl ps).toNat, by omega⟩
      have hct := Lib.hid (fun x hx => c_l3Total 0 A n c ps x hx hmany.out (by omega))
      rw [hX] at hct
      rw [hX, Int.toNat_natCast, hpn] at hx'
      have z1 := dec_size (n := X) (by omega)
      have z2 := dec_size (n := n) (by omega)
      have d1 := Lib.hid (fun x => c_l6Dec X (by omega) x)
      have d2 := Lib.hid (fun x => c_l6Dec n (by omega) x)
      obtain ⟨D1, hD1⟩ : ∃ D, dec X = D := ⟨_, rfl⟩
      obtain ⟨D2, hD2⟩ : ∃ D, dec n = D := ⟨_, rfl⟩
      rw [hD1] at d1 z1 hx'
      rw [hD2] at d2 z2 hx'
      rw [← tail_app] at hx'
      obtain ⟨T1, hT1⟩ : ∃ T, o ++ tBal = T := ⟨_, rfl⟩
      obtain ⟨T2, hT2⟩ : ∃ T, T1 ++ D1 = T := ⟨_, rfl⟩
      obtain ⟨T3, hT3⟩ : ∃ T, T2 ++ tPil = T := ⟨_, rfl⟩
      obtain ⟨T4, hT4⟩ : ∃ T, T3 ++ D2 = T := ⟨_, rfl⟩
      obtain ⟨T5, hT5⟩ : ∃ T, T4 ++ tNl = T := ⟨_, rfl⟩
      rw [hT1, hT2, hT3, hT4, hT5] at hx'
      have l1 : tBal.size = 8 := rfl
      have l2 : tPil.size = 7 := rfl
      have l3 : tNl.size = 1 := rfl
      have y1 : T1.size = o.size + 8 := by rw [← hT1, ByteArray.size_append, l1]
      have y2 : T2.size = T1.size + D1.size := by rw [← hT2, ByteArray.size_append]
      have y3 : T3.size = T2.size + 7 := by rw [← hT3, ByteArray.size_append, l2]
      have y4 : T4.size = T3.size + D2.size := by rw [← hT4, ByteArray.size_append]
      have y5 : T5.size = T4.size + 1 := by rw [← hT5, ByteArray.size_append, l3]
      have a1 := add_str _ _ _ hT1 (by omega)
      have a2 := add_str _ _ _ hT2 (by omega)
      have a3 := add_str _ _ _ hT3 (by omega)
      have a4 := add_str _ _ _ hT4 (by omega)
      have a5 := add_str _ _ _ hT5 (by omega)
      unfold tBal at a1
      unfold tPil at a3
      unfold tNl at a5
      have Hx := Lib.hid hx'
      clear hT1 hT2 hT3 hT4 hT5 l1 l2 l3 y1 y2 y3 y4 y5 z1 z2 hD1 hD2 hx' hall hps hX hsum hfew hpn hok hran
      go_wp2_with fail
      refine (hct.out _ hP).mono ?_
      rintro e w2 ⟨rfl, rfl⟩
      go_wp2_with fail
      refine (d1.out _).mono ?_
      rintro e w2 ⟨rfl, hg2⟩
      go_wp2_with fail
      refine (d2.out _).mono ?_
      rintro e w3 ⟨rfl, hg3⟩
      go_wp2
      go_ret
      exact ⟨ret_str Hx.out.symm, gb_trans (gb_trans (gb_trans hG1 hgr) hg2) hg3⟩
end Go.Proofs.YtboobimpoddacaaGreatDoor

namespace Go.Proofs.YtboobimpoddacaaGreatDoor
open Go.RowKit
set_option linter.unusedVariables false

/-- The state of a script: a struct in block S, piles of the call's own from lo on. -/
def State (w : World) (lo S : Nat) (ps : List Pl) : Prop := ∃ A n c, Blk w S 34 #[.slice A n c] ∧ w.ownsRow lo 65 2 (.slice A n c) n (cellsOf plCells ps)
theorem State.grown {w w' : World} {lo S : Nat} {ps : List Pl} (h : State w lo S ps) (hg : w.grownBy w' none) : State w' lo S ps := by
  obtain ⟨A, n, c, hB, hP⟩ := h
  exact ⟨A, n, c, hB.grown hg (by simp), own_below hP hg⟩
/-- What a line leaves. -/
def ExecRes (r : List Pl × ByteArray) (w0 : World) (lo S : Nat) (e : Ending) (w' : World) : Prop :=
  e = .returned (.string r.2) ∧ w0.grownBy w' (some S) ∧ State w' lo S r.1
theorem ExecRes.mk_ {r : List Pl × ByteArray} {ps : List Pl} {t : ByteArray} {w0 w' : World} {lo S : Nat} (hr : r = (ps, t)) (hg : w0.grownBy w' (some S)) (hS : State w' lo S ps) : ExecRes r w0 lo S (.returned (.string t)) w' := by
  subst hr
  exact ⟨rfl, hg, hS⟩

def voteFacts (S L N b off : Nat) (V : Bool) (sl wl t z : Value) (cs : List Value) : Nat → Value → World → Prop
  | 0 | 1 => fun v _ => v = .pointer (some ⟨S, 0, none⟩)
  | 2 => fun v _ => v = .pointer (some ⟨S, 0, none⟩)
  | 3 => fun v _ => v = sl
  | 4 => fun v _ => v = wl
  | 5 => fun v _ => v = .pointer (some ⟨b, off + 1, none⟩)
  | 6 => fun v _ => v = t
  | 7 => fun v _ => v = z
  | 8 | 9 => fun v x => ∃ B c, v = .tuple #[.slice B N c, .bool V] ∧ x.ownsRow L 65 2 (.slice B N c) N cs
  | 10 | 12 => fun v x => ∃ B c, v = .slice B N c ∧ x.ownsRow L 65 2 (.slice B N c) N cs
  | _ => fun v _ => v = .bool V
theorem voteFacts_kept {S L N b off : Nat} {V : Bool} {sl wl t z : Value} {cs : List Value} {x y : World} (hg : x.grownBy y none) : ∀ i v, voteFacts S L N b off V sl wl t z cs i v x → voteFacts S L N b off V sl wl t z cs i v y := by
  intro i v hv
  unfold voteFacts at *
  split at hv
  all_goals first
    | exact hv
    | (obtain ⟨B, c, e, ho⟩ := hv; exact ⟨B, c, e, own_below ho hg⟩)

def lenOfSl : Value → Nat
  | .slice _ k _ => k
  | _ => 0

attribute [local go_sem] flowAct flowOp_def flowUpon
set_option maxHeartbeats 8000000 in
set_option maxRecDepth 100000 in
theorem c_execute (lo S : Nat) (ps : List Pl) (w0 w : World) (B : Option Addr) (m cb : Nat) (ws : List ByteArray) (hg0 : w0.grownBy w none) (hS : State w0 lo S ps) (hSl : S < lo) (hlo : lo ≤ w0.heap.size) (hok : StOK ps) (hE : Env w0)
    (hW : w.ownsRow w0.heap.size 9 1 (.slice B m cb) m (ws.map Value.string)) (hm1 : 1 ≤ m) (hm : m ≤ 1000) (hws : ∀ p ∈ ws, p.size ≤ 400) :
    Calls Tryz.prog 23 #[.pointer (some ⟨S, 0, none⟩), .slice B m cb] w (ExecRes (lineRes ps ws) w0 lo S) := by
  have HS := Lib.hid hS
  obtain ⟨A, n, c, hB, hP⟩ := hS
  have hPl : Piles w0 lo A n c ps := Sl.own hP
  have hn := hPl.len
  have hfew := hok.few
  have Hs := Lib.hid hok.sizes
  have hwl : ws.length = m := Strs.len (Sl.own hW)
  have hwl' := Lib.hid hwl
  have Hws := Lib.hid hws
  have HE := Lib.hid hE
  have HB := Lib.hid hB
  have HP := Lib.hid hP
  clear hB hP hE hok hws hwl
  go_enter Tryz.func23, Tryz.ntmps23
  go_wp2
  go_loopw [1] (fun v wr => ∃ (k j cd : Nat) (D : Option Addr), k = m + j ∧ k ≤ 1000 ∧ v = .slice D k cd ∧ w0.grownBy wr none ∧ wr.ownsRow w0.heap.size 9 1 (.slice D k cd) k ((ws ++ List.replicate j (⟨#[]⟩ : ByteArray)).map Value.string)) (fun v _ => 4 - lenOfSl v)
  case atStart => exact ⟨m, 0, cb, B, rfl, hm, rfl, hg0, by rw [List.replicate_zero, List.append_nil]; exact hW⟩
  case round =>
    obtain ⟨k, j, cd, D, hkj, hk, rfl, hg, hD⟩ := hrel
    have Hkj := Lib.hid hkj
    clear hkj
    by_cases hlt : k < 4
    · have hlt' : (k : Int) < 4 := by omega
      have hz := hg.size
      go_wp2_with (at_builtin; refine wpList_app lineEl rfl _ _ rfl _ k _ _ rfl hD [_] rfl rfl (by simp [Value.oneCell']) (by omega) (by omega) hz ?_; intro A' c' w1 hown1 hb1 hg1 hat1)
      go_roundw
      case rel => exact ⟨k + 1, j + 1, c', A', by have := Hkj.out; omega, by omega, rfl, gb_of_below ((gb_below hg).trans hb1) none, by rw [List.replicate_succ', ← List.append_assoc, List.map_append]; exact hown1⟩
      case measure => simp [lenOfSl]; omega
    · have hlt' : ¬ (k : Int) < 4 := by omega
      have hk4 : 4 ≤ k := by omega
      have hSt := Sl.own hD
      have hle := Sl.le hSt
      have hmx := Sl.max hSt
      obtain ⟨b, off, rfl, hb0, _, hc⟩ := hSt.2.2.ex (by omega)
      have hall : ∀ p ∈ ws ++ List.replicate j (⟨#[]⟩ : ByteArray), p.size ≤ 400 := fun p hp => by
        rcases List.mem_append.1 hp with hp | hp
        · exact Hws.out p hp
        · rw [List.eq_of_mem_replicate hp]; exact Nat.zero_le _
      have hln : (ws ++ List.replicate j (⟨#[]⟩ : ByteArray)).length = k := by rw [List.length_append, List.length_replicate, hwl'.out, Hkj.out]
      have hpad := Lib.hid (lineRes_pad ps ws j)
      unfold lineRes at hpad
      obtain ⟨vs, hvs⟩ : ∃ vs, ws ++ List.replicate j (⟨#[]⟩ : ByteArray) = vs := ⟨_, rfl⟩
      rw [hvs] at hc hall hln hpad
      have key : ∀ i, i < 4 → wr.cell? ⟨b, off + i, none⟩ = some (.string (word vs i)) := by
        intro i hi
        refine hc i _ ?_
        rw [List.getElem?_map]
        unfold word
        rw [List.getElem?_eq_getElem (by omega)]
        rfl
      have c0 := key 0 (by omega)
      rw [Nat.add_zero] at c0
      have c1 := key 1 (by omega)
      have c2 := key 2 (by omega)
      have c3 := key 3 (by omega)
      have s1 := word_size hall 1
      have s2 := word_size hall 2
      have s3 := word_size hall 3
      have i0 : (0 : Int) < (k : Int) := by omega
      have i1 : (1 : Int) < (k : Int) := by omega
      have i2 : (2 : Int) < (k : Int) := by omega
      have i3 : (3 : Int) < (k : Int) := by omega
      obtain ⟨t0, h0⟩ : ∃ t, word vs 0 = t := ⟨_, rfl⟩
      obtain ⟨t1, h1⟩ : ∃ t, word vs 1 = t := ⟨_, rfl⟩
      obtain ⟨t2, h2⟩ : ∃ t, word vs 2 = t := ⟨_, rfl⟩
      obtain ⟨t3, h3⟩ : ∃ t, word vs 3 = t := ⟨_, rfl⟩
      rw [h0] at c0 hpad
      rw [h1] at c1 hpad s1
      rw [h2] at c2 hpad s2
      rw [h3] at c3 hpad s3
      have hn1 := Lib.hid (fun x hx => c_scriptNumber t1 x hx (by omega))
      have hn2 := Lib.hid (fun x hx => c_scriptNumber t2 x hx (by omega))
      have hn3 := Lib.hid (fun x hx => c_scriptNumber t3 x hx (by omega))
      have hy9 : num t3 ≤ 999 := (num_range t3).2
      obtain ⟨a, ha⟩ : ∃ a, num t1 = a := ⟨_, rfl⟩
      obtain ⟨z, hz⟩ : ∃ z, num t2 = z := ⟨_, rfl⟩
      obtain ⟨y, hy⟩ : ∃ y, num t3 = y := ⟨_, rfl⟩
      rw [ha] at hn1 hpad
      rw [hz] at hn2 hpad
      rw [hy] at hn3 hpad hy9
      have hpad : Hid (lineRes ps ws = lineOf ps t0 t1 a z y) := Lib.hid hpad.out.symm
      clear hvs hc hall hln key h0 h1 h2 h3 ha hz hy hD hSt Hkj
      rename World => wl
      have HEl := Lib.hid (HE.out.grown hg)
      go_wp2_with fail
      refine wp_known wl [.slice (some ⟨b, off, none⟩) k cd, .pointer (some ⟨b, off + 1, none⟩), .string t1, .int .i64 a, .slice (some ⟨b, off, none⟩) k cd, .pointer (some ⟨b, off + 2, none⟩), .string t2, .int .i64 z, .slice (some ⟨b, off, none⟩) k cd, .pointer (some ⟨b, off + 3, none⟩), .string t3, .int .i64 y, .int .i64 a, .int .i64 z, .int .i64 y] (gb_refl _ _) (by kernel_rfl) (by kernel_rfl) ?_ ?_
      · refine ⟨?_, ?_, ?_, ?_, ?_, ?_, ?_, ?_, ?_, ?_, ?_, ?_, ?_, ?_, ?_, trivial⟩
        all_goals
          intro q u x hn hC hp
          simp [flowPreds, Region.binds, fKnown] at hp
          have d1 := gb_cell hC c1 (by simp)
          have d2 := gb_cell hC c2 (by simp)
          have d3 := gb_cell hC c3 (by simp)
          go_simp
        all_goals try exact ⟨gb_refl _ _, rfl⟩
        · refine (hn1.out _ (HEl.out.grown hC)).mono ?_
          rintro e y1 ⟨rfl, hg1⟩
          exact ⟨_, rfl, hg1, rfl⟩
        · refine (hn2.out _ (HEl.out.grown hC)).mono ?_
          rintro e y1 ⟨rfl, hg1⟩
          exact ⟨_, rfl, hg1, rfl⟩
        · refine (hn3.out _ (HEl.out.grown hC)).mono ?_
          rintro e y1 ⟨rfl, hg1⟩
          exact ⟨_, rfl, hg1, rfl⟩
      · intro u x hC hp
        have e12 : u 12 = .int .i64 a := hp 12 (by decide)
        have e13 : u 13 = .int .i64 z := hp 13 (by decide)
        have e14 : u 14 = .int .i64 y := hp 14 (by decide)
        have d0 := gb_cell hC c0 (by simp)
        have d1 := gb_cell hC c1 (by simp)
        have hGx := gb_trans hg hC
        have hPx := hPl.keep0 hGx
        have hBx := HB.out.grown hGx (by simp)
        have p0 := hBx.cell 0
        simp only [List.getElem?_toArray, List.getElem?_cons_zero] at p0
        have pfz := hBx.frozen 0
        have hzx := hGx.size
        clear hp hn1 hn2 hn3 c0 c1 c2 c3
        have HEx := Lib.hid (HE.out.grown hGx)
        by_cases e1 : t0 = tVote
        · have hl := Lib.hid (hpad.out.trans (line_vote e1))
          have q1 : (t0.toList == [118, 111, 116, 101]) = true := by rw [lit_eq]; exact decide_eq_true e1
          clear e1
          obtain ⟨V, hV⟩ : ∃ V, addOK ps t1 z = V := ⟨_, rfl⟩
          have HV := Lib.hid hV
          have hca := Lib.hid (fun x hx => c_impl_PilesAdd lo A n c ps t1 z x hx Hs.out (by omega))
          unfold PilesOkRes at hca
          have hcl : Hid ((cellsOf plCells (addRes ps t1 z)) = cellsOf plCells (addRes ps t1 z)) := Lib.hid rfl
          obtain ⟨qs, hqs⟩ : ∃ qs, addRes ps t1 z = qs := ⟨_, rfl⟩
          have Hqs := Lib.hid hqs
          obtain ⟨N, hN⟩ : ∃ N, qs.length = N := ⟨_, rfl⟩
          rw [hV, hqs, hN] at hca
          clear hV hqs hN hcl
          have hSx : S < x.heap.size := by omega
          go_simp
          go_wp2_with fail
          refine wp_flow (by kernel_rfl) (by kernel_rfl) (PC x) PT (voteFacts S x.heap.size N b off V (.slice A n c) (.slice (some ⟨b, off, none⟩) k cd) (.string t1) (.int .i64 z) (cellsOf plCells qs)) (gb_drew (gb_refl _ _)) (fun n x y h k => gb_trans k h) (fun n x y h _ i v hv => voteFacts_kept h i v hv) ?_ ?_
          · refine ⟨fun i v x2 hn2 hC2 hp => ?_, fun i v x2 hn2 hC2 hp => ?_, fun i v x2 hn2 hC2 hp => ?_, fun i v x2 hn2 hC2 hp => ?_, fun i v x2 hn2 hC2 hp => ?_, fun i v x2 hn2 hC2 hp => ?_, fun i v x2 hn2 hC2 hp => ?_, fun i v x2 hn2 hC2 hp => ?_, fun i v x2 hn2 hC2 hp => ?_, fun i v x2 hn2 hC2 hp => ?_, fun i v x2 hn2 hC2 hp => ?_, fun i v x2 hn2 hC2 hp => ?_, fun i v x2 hn2 hC2 hp => ?_, fun i v x2 hn2 hC2 hp => ?_, trivial⟩
            · clear hp; go_simp; exact ⟨gb_refl _ _, rfl⟩
            · have f0 : v 0 = .pointer (some ⟨S, 0, none⟩) := hp 0 (by decide)
              clear hp; go_simp; exact ⟨gb_refl _ _, rfl⟩
            · have f1 : v 1 = .pointer (some ⟨S, 0, none⟩) := hp 1 (by decide)
              clear hp; go_simp; exact ⟨gb_refl _ _, rfl⟩
            · have f2 : v 2 = .pointer (some ⟨S, 0, none⟩) := hp 2 (by decide)
              have p0' := gb_cell hC2 p0 (by simp)
              clear hp; go_simp; exact ⟨gb_refl _ _, rfl⟩
            · clear hp; go_simp; exact ⟨gb_refl _ _, rfl⟩
            · have f4 : v 4 = .slice (some ⟨b, off, none⟩) k cd := hp 4 (by decide)
              clear hp; go_simp; exact ⟨gb_refl _ _, rfl⟩
            · have f5 : v 5 = .pointer (some ⟨b, off + 1, none⟩) := hp 5 (by decide)
              have d1' := gb_cell hC2 d1 (by simp)
              clear hp; go_simp; exact ⟨gb_refl _ _, rfl⟩
            · clear hp; go_simp; exact ⟨gb_refl _ _, rfl⟩
            · have f3 : v 3 = .slice A n c := hp 3 (by decide)
              have f6 : v 6 = .string t1 := hp 6 (by decide)
              have f7 : v 7 = .int .i64 z := hp 7 (by decide)
              clear hp
              go_simp
              refine (hca.out _ (hPx.keep0 hC2)).mono ?_
              rintro e y2 ⟨B2, c2', rfl, hg2, ho2⟩
              exact ⟨_, rfl, hg2, B2, c2', rfl, own_lo ho2 hC2.size⟩
            · obtain ⟨B2, c2', f8, ho2⟩ := (show ∃ B c, v 8 = .tuple #[.slice B N c, .bool V] ∧ x2.ownsRow x.heap.size 65 2 (.slice B N c) N (cellsOf plCells qs) from hp 8 (by decide))
              clear hp; go_simp; exact ⟨gb_refl _ _, B2, c2', rfl, ho2⟩
            · obtain ⟨B2, c2', f9, ho2⟩ := (show ∃ B c, v 9 = .tuple #[.slice B N c, .bool V] ∧ x2.ownsRow x.heap.size 65 2 (.slice B N c) N (cellsOf plCells qs) from hp 9 (by decide))
              clear hp; go_simp; exact ⟨gb_refl _ _, B2, c2', rfl, ho2⟩
            · obtain ⟨B2, c2', f9, ho2⟩ := (show ∃ B c, v 9 = .tuple #[.slice B N c, .bool V] ∧ x2.ownsRow x.heap.size 65 2 (.slice B N c) N (cellsOf plCells qs) from hp 9 (by decide))
              clear hp; go_simp; exact ⟨gb_refl _ _, rfl⟩
            · obtain ⟨B2, c2', f10, ho2⟩ := (show ∃ B c, v 10 = .slice B N c ∧ x2.ownsRow x.heap.size 65 2 (.slice B N c) N (cellsOf plCells qs) from hp 10 (by decide))
              clear hp; go_simp; exact ⟨gb_refl _ _, B2, c2', rfl, ho2⟩
            · have f11 : v 11 = .bool V := hp 11 (by decide)
              clear hp; go_simp; exact ⟨gb_refl _ _, rfl⟩
          · intro i v x2 hn2 hC2 hp
            obtain ⟨B2, c2', f12, ho2⟩ := (show ∃ B c, v 12 = .slice B N c ∧ x2.ownsRow x.heap.size 65 2 (.slice B N c) N (cellsOf plCells qs) from hp 12 (by decide))
            have f13 : v 13 = .bool V := hp 13 (by decide)
            have hG2 := gb_trans hGx hC2
            have hB2 := HB.out.grown hG2 (by simp)
            have pfz2 := hB2.frozen 0
            have p02 := hB2.cell 0
            simp only [List.getElem?_toArray, List.getElem?_cons_zero] at p02
            clear hp hca
            cases V with
            | false =>
              go_simp
              go_wp2
              go_ret
              exact ExecRes.mk_ (by rw [hl.out, HV.out]; rfl) (gb_mono hG2 _) (HS.out.grown hG2)
            | true =>
              have hBs := hB2.set_ 0 (.slice B2 N c2')
              have hgs : x2.grownBy (x2.setCell ⟨S, 0, none⟩ (.slice B2 N c2')) (some S) := gb_setCell (gb_refl _ _) (.inl rfl) _
              have hos := own_lo (own_kept ho2 hgs (fun k e => by injection e with e; subst e; exact .inl hSx)) (Nat.le_trans hlo hzx)
              have hGs := gb_trans (gb_mono hG2 (some S)) hgs
              go_simp
              go_wp2
              go_ret
              exact ExecRes.mk_ (by rw [hl.out, HV.out, if_pos rfl, Hqs.out]; rfl) hGs ⟨B2, N, c2', hBs, hos⟩
        have q1 : (t0.toList == [118, 111, 116, 101]) = false := by rw [lit_eq]; exact decide_eq_false e1
        by_cases e2 : t0 = tClear
        · have hl := Lib.hid (hpad.out.trans (line_clr e2))
          have q2 : (t0.toList == [99, 108, 101, 97, 114]) = true := by rw [lit_eq]; exact decide_eq_true e2
          clear e1 e2
          have hBs := hBx.set_ 0 (.slice none 0 0)
          have hGs : w0.grownBy (x.setCell ⟨S, 0, none⟩ (.slice none 0 0)) (some S) := gb_setCell (gb_mono hGx _) (.inl rfl) _
          go_simp
          go_wp2
          go_ret
          exact ExecRes.mk_ hl.out hGs ⟨none, 0, 0, hBs, own_nil _ _ _ _⟩
        have q2 : (t0.toList == [99, 108, 101, 97, 114]) = false := by rw [lit_eq]; exact decide_eq_false e2
        by_cases e3 : t0 = tPlur
        · have hl := Lib.hid (hpad.out.trans (line_plur e3))
          have q3 : (t0.toList == [112, 108, 117, 114, 97, 108, 105, 116, 121]) = true := by rw [lit_eq]; exact decide_eq_true e3
          clear e1 e2 e3
          go_simp
          go_wp2_with fail
          refine (c_impl_ContestText lo A n c ps a 1 z _ hPx Hs.out HEx.out.tab).mono ?_
          rintro e w2 ⟨rfl, hg2⟩
          go_wp2_with fail
          refine (c_textOrNo _ _).mono ?_
          rintro e w3 ⟨rfl, rfl⟩
          go_wp2
          go_ret
          exact ExecRes.mk_ hl.out (gb_mono (gb_trans hGx hg2) _) (HS.out.grown (gb_trans hGx hg2))
        have q3 : (t0.toList == [112, 108, 117, 114, 97, 108, 105, 116, 121]) = false := by rw [lit_eq]; exact decide_eq_false e3
        by_cases e4 : t0 = tRun
        · have hl := Lib.hid (hpad.out.trans (line_run e4))
          have q4 : (t0.toList == [114, 117, 110, 111, 102, 102]) = true := by rw [lit_eq]; exact decide_eq_true e4
          clear e1 e2 e3 e4
          go_simp
          go_wp2_with fail
          refine (c_impl_ContestText lo A n c ps a 2 z _ hPx Hs.out HEx.out.tab).mono ?_
          rintro e w2 ⟨rfl, hg2⟩
          go_wp2_with fail
          refine (c_textOrNo _ _).mono ?_
          rintro e w3 ⟨rfl, rfl⟩
          go_wp2
          go_ret
          exact ExecRes.mk_ hl.out (gb_mono (gb_trans hGx hg2) _) (HS.out.grown (gb_trans hGx hg2))
        have q4 : (t0.toList == [114, 117, 110, 111, 102, 102]) = false := by rw [lit_eq]; exact decide_eq_false e4
        by_cases e5 : t0 = tPairs
        · have hl := Lib.hid (hpad.out.trans (line_pairs e5))
          have q5 : (t0.toList == [112, 97, 105, 114, 115]) = true := by rw [lit_eq]; exact decide_eq_true e5
          clear e1 e2 e3 e4 e5
          go_simp
          go_wp2_with fail
          refine (c_impl_ContestText lo A n c ps a 3 z _ hPx Hs.out HEx.out.tab).mono ?_
          rintro e w2 ⟨rfl, hg2⟩
          go_wp2_with fail
          refine (c_textOrNo _ _).mono ?_
          rintro e w3 ⟨rfl, rfl⟩
          go_wp2
          go_ret
          exact ExecRes.mk_ hl.out (gb_mono (gb_trans hGx hg2) _) (HS.out.grown (gb_trans hGx hg2))
        have q5 : (t0.toList == [112, 97, 105, 114, 115]) = false := by rw [lit_eq]; exact decide_eq_false e5
        by_cases e6 : t0 = tRisk
        · have hl := Lib.hid (hpad.out.trans (line_risk e6))
          have q6 : (t0.toList == [114, 105, 115, 107]) = true := by rw [lit_eq]; exact decide_eq_true e6
          clear e1 e2 e3 e4 e5 e6
          have hb1 := riskWays_bounds a z y
          have hb2 := riskAll_bounds a z
          have hrt : riskText a z y = if riskWays a z y < 0 then tNo else dec (riskWays a z y).toNat ++ tOf ++ dec (riskAll a z).toNat ++ tNl := rfl
          have hpos : 0 ≤ riskWays a z y → 0 ≤ riskAll a z := by
            unfold riskWays riskAll
            split
            · intro _; omega
            · intro h; omega
          have hcr := Lib.hid (fun x => c_impl_AuditRisk a z y hy9 x)
          obtain ⟨W, hW⟩ : ∃ W, riskWays a z y = W := ⟨_, rfl⟩
          obtain ⟨V, hV⟩ : ∃ V, riskAll a z = V := ⟨_, rfl⟩
          rw [hW] at hb1 hrt hpos hcr
          rw [hV] at hb2 hrt hpos hcr
          have Hrt := Lib.hid hrt
          clear hrt hW hV
          go_simp
          go_wp2_with fail
          refine (hcr.out _).mono ?_
          rintro e w1 ⟨rfl, rfl⟩
          by_cases hneg : W < 0
          · go_wp2
            go_ret
            exact ExecRes.mk_ (by rw [hl.out, Hrt.out, if_pos hneg]; rfl) (gb_mono hGx _) (HS.out.grown hGx)
          · obtain ⟨X, rfl⟩ : ∃ X : Nat, W = (X : Int) := ⟨W.toNat, by omega⟩
            obtain ⟨Y, rfl⟩ : ∃ Y : Nat, V = (Y : Int) := ⟨V.toNat, by have := hpos (by omega); omega⟩
            have hrt := Hrt.out
            rw [if_neg hneg, Int.toNat_natCast, Int.toNat_natCast] at hrt
            have z1 := dec_size (n := X) (by omega)
            have z2 := dec_size (n := Y) (by omega)
            have g1 := Lib.hid (fun x hx => c_ItoaB X x hx (by omega))
            have g2 := Lib.hid (fun x hx => c_ItoaB Y x hx (by omega))
            obtain ⟨D1, hD1⟩ : ∃ D, dec X = D := ⟨_, rfl⟩
            obtain ⟨D2, hD2⟩ : ∃ D, dec Y = D := ⟨_, rfl⟩
            rw [hD1] at g1 z1 hrt
            rw [hD2] at g2 z2 hrt
            obtain ⟨T1, hT1⟩ : ∃ T, D1 ++ tOf = T := ⟨_, rfl⟩
            obtain ⟨T2, hT2⟩ : ∃ T, T1 ++ D2 = T := ⟨_, rfl⟩
            obtain ⟨T3, hT3⟩ : ∃ T, T2 ++ tNl = T := ⟨_, rfl⟩
            rw [hT1, hT2, hT3] at hrt
            have l1 : tOf.size = 4 := rfl
            have l2 : tNl.size = 1 := rfl
            have y1 : T1.size = D1.size + 4 := by rw [← hT1, ByteArray.size_append, l1]
            have y2 : T2.size = T1.size + D2.size := by rw [← hT2, ByteArray.size_append]
            have y3 : T3.size = T2.size + 1 := by rw [← hT3, ByteArray.size_append, l2]
            have a1 := add_str _ _ _ hT1 (by omega)
            have a2 := add_str _ _ _ hT2 (by omega)
            have a3 := add_str _ _ _ hT3 (by omega)
            unfold tOf at a1
            unfold tNl at a3
            have hrt := Lib.hid hrt
            clear hD1 hD2 hT1 hT2 hT3 z1 z2 y1 y2 y3 l1 l2
            go_wp2_with fail
            refine (g1.out _ HEx.out.tab).mono ?_
            rintro e w1 ⟨rfl, hg1⟩
            go_wp2_with fail
            refine (g2.out _ (HEx.out.grown hg1).tab).mono ?_
            rintro e w2 ⟨rfl, hg2⟩
            go_wp2
            go_ret
            exact ExecRes.mk_ (by rw [hl.out, hrt.out]) (gb_mono (gb_trans hGx (gb_trans hg1 hg2)) _) (HS.out.grown (gb_trans hGx (gb_trans hg1 hg2)))
        have q6 : (t0.toList == [114, 105, 115, 107]) = false := by rw [lit_eq]; exact decide_eq_false e6
        have hl := Lib.hid (hpad.out.trans (line_what e1 e2 e3 e4 e5 e6))
        clear e1 e2 e3 e4 e5 e6
        go_simp
        go_wp2
        go_ret
        exact ExecRes.mk_ hl.out (gb_mono hGx _) (HS.out.grown hGx)
end Go.Proofs.YtboobimpoddacaaGreatDoor

namespace Go.Proofs.YtboobimpoddacaaGreatDoor
open Go.RowKit
set_option linter.unusedVariables false

theorem bdrAt_grownS {w w' : World} {B b S : Nat} {p : Value} {bs : List Value} (h : Lib.BuilderAtF 37 5 B b p bs w) (hg : w.grownBy w' (some S)) (hS : S < B) : Lib.BuilderAtF 37 5 B b p bs w' := by
  have hlt := h.lt
  obtain ⟨hB, v, hb, hown, hne⟩ := h
  refine ⟨hB, v, by rw [hg.block b hlt (by simp; omega)]; exact hb, hown.kept hg ?_, hne⟩
  cases e : v.ownBlock with
  | none => exact .inl rfl
  | some g =>
    have := (hown.lt g e).1
    exact .inr (by simp; omega)
theorem Bdr.grownS {w w' : World} {B b S : Nat} {s : ByteArray} (h : Bdr w B b s) (hg : w.grownBy w' (some S)) (hS : S < B) : Bdr w' B b s :=
  ⟨h.is.elim (fun x => .inl (bdrAt_grownS x hg hS)) (fun x => .inr (bdrAt_grownS x hg hS)), Nat.le_trans h.lo hg.size⟩
theorem State.bkeep {w w' : World} {lo S B b : Nat} {ps : List Pl} {s : ByteArray} (h : State w lo S ps) (hB : Bdr w B b s) (hk : BKeep w w' B b) (hS : S < B) : State w' lo S ps := by
  obtain ⟨A, n, c, hBl, hP⟩ := h
  exact ⟨A, n, c, (hk.below.block S hS).trans hBl, own_bkeep hP hB hk (by decide) (by decide)⟩
/-- Nothing below B turns, if S lies from B on. -/
theorem below_gbS {B S : Nat} {a w w' : World} (h : Below B a w) (hg : w.grownBy w' (some S)) (hS : B ≤ S) (hB : B ≤ w.heap.size) : Below B a w' :=
  ⟨hg.os.trans h.os, hg.tape.trans h.tape, hg.output.trans h.output, Nat.le_trans h.size hg.size, fun i hi => (hg.block i (by omega) (by simp; omega)).trans (h.block i hi)⟩
theorem below_less {B C : Nat} {w w' : World} (h : Below C w w') (hB : B ≤ C) : Below B w w' := ⟨h.os, h.tape, h.output, h.size, fun k hk => h.block k (by omega)⟩
theorem Env.below {w w' : World} (h : Env w) (hb : Below w.heap.size w w') : Env w' := h.grown (gb_of_below hb none)
def tBal0 : ByteArray := ⟨#[98, 97, 108, 108, 111, 116, 115]⟩
def tPil0 : ByteArray := ⟨#[32, 112, 105, 108, 101, 115]⟩
theorem tail_row (X n : Nat) : tBal0 ++ rowText [(X : Int)] ++ tPil0 ++ rowText [(n : Int)] ++ tNl = tBal ++ dec X ++ tPil ++ dec n ++ tNl := by
  have e1 : tBal0 ++ ⟨#[32]⟩ = tBal := ByteArray.mk_append_mk [98, 97, 108, 108, 111, 116, 115] [32]
  have e2 : tPil0 ++ ⟨#[32]⟩ = tPil := ByteArray.mk_append_mk [32, 112, 105, 108, 101, 115] [32]
  rw [rowText_one, rowText_one, ← e1, ← e2, Int.toNat_natCast, Int.toNat_natCast]
  simp only [ByteArray.append_assoc]

/-- What the operations ahead of the last write leave. -/
def endFacts (S : Nat) (sl : Value) (X n : Int) (R1 T1 T2 R2 T3 T4 : ByteArray) : Nat → Value → World → Prop
  | 0 | 7 => fun v _ => v = .pointer (some ⟨S, 0, none⟩)
  | 1 | 8 => fun v _ => v = sl
  | 2 => fun v _ => v = .int .i64 X
  | 3 => fun v x => ∃ g, v = .slice (some ⟨g, 0, none⟩) 1 1 ∧ Blk x g 3 #[.int .i64 X]
  | 4 => fun v _ => v = .string R1
  | 5 => fun v _ => v = .string T1
  | 6 => fun v _ => v = .string T2
  | 9 => fun v _ => v = .int .i64 n
  | 10 => fun v x => ∃ g, v = .slice (some ⟨g, 0, none⟩) 1 1 ∧ Blk x g 3 #[.int .i64 n]
  | 11 => fun v _ => v = .string R2
  | 12 => fun v _ => v = .string T3
  | _ => fun v _ => v = .string T4
theorem endFacts_kept {S : Nat} {sl : Value} {X n : Int} {R1 T1 T2 R2 T3 T4 : ByteArray} {x y : World} (hg : x.grownBy y none) : ∀ i v, endFacts S sl X n R1 T1 T2 R2 T3 T4 i v x → endFacts S sl X n R1 T1 T2 R2 T3 T4 i v y := by
  intro i v hv
  unfold endFacts at *
  split at hv
  all_goals first
    | exact hv
    | (obtain ⟨g, e, hb⟩ := hv; exact ⟨g, e, hb.grown hg (by simp)⟩)
theorem ints_blk {x : World} {g : Nat} {z : Int} (h : Blk x g 3 #[.int .i64 z]) : Ints x g (some ⟨g, 0, none⟩) 1 1 [z] := Sl.own (own_of_blk (lo := g) (size := 1) (n := 1) h rfl (by omega) (Nat.le_refl _))

attribute [local go_sem] flowAct flowOp_def flowUpon
set_option maxHeartbeats 8000000 in
set_option maxRecDepth 100000 in
theorem c_impl_Execute (t : ByteArray) (w : World) (ht : t.size ≤ 2000000) (hE : Env w) :
    Calls Tryz.prog 13 #[.string t] w fun e w' => e = .returned (.string (exec t)) ∧ w.grownBy w' none := by
  by_cases h4 : 400 < t.size
  · have hx := Lib.hid (exec_long h4)
    have h4' : (400 : Int) < (t.size : Int) := by omega
    go_enter Tryz.func13, Tryz.ntmps13
    go_wp2
    go_ret
    exact ⟨ret_str hx.out.symm, gb_refl _ _⟩
  have h400 : t.size ≤ 400 := by omega
  have h4' : ¬ (400 : Int) < (t.size : Int) := by omega
  have hx := Lib.hid (exec_short h400)
  have hls := Lib.hid (linesOf_size h400)
  have hlen := linesOf_len t
  have hcl := cut_len 10 t
  have hcp := cut_pos 10 t
  have HE := Lib.hid hE
  obtain ⟨w1, hw1⟩ : ∃ x, w.alloc (.cells #[.slice none 0 0] 34) = x := ⟨_, rfl⟩
  have hz1 : w1.heap.size = w.heap.size + 1 := by rw [← hw1]; simp
  have hg1 : w.grownBy w1 none := by rw [← hw1]; exact gb_alloc (gb_refl _ _) _
  have hb1 : Blk w1 w.heap.size 34 #[.slice none 0 0] := by rw [← hw1]; exact Blk.new _ _ _
  have Hw1 := Lib.hid hw1
  have hBd := Bdr.new w1
  have hg2 : w1.grownBy (w1.alloc (.cells #[.pointer none, .slice none 0 0] 37)) none := gb_alloc (gb_refl _ _) _
  obtain ⟨w2, hw2⟩ : ∃ x, w1.alloc (.cells #[.pointer none, .slice none 0 0] 37) = x := ⟨_, rfl⟩
  have hz2 : w2.heap.size = w1.heap.size + 1 := by rw [← hw2]; simp
  rw [hw2] at hBd hg2
  have Hw2 := Lib.hid hw2
  have hG2 := gb_trans hg1 hg2
  have hSt : State w2 w1.heap.size w.heap.size [] := ⟨none, 0, 0, hb1.grown hg2 (by simp), own_nil _ _ _ _⟩
  have hE2 := Lib.hid (hE.grown hG2)
  obtain ⟨m, hm⟩ : ∃ m, (cut 10 t).length = m + 1 := ⟨(cut 10 t).length - 1, by omega⟩
  have Hm := Lib.hid hm
  have hll : Hid ((linesOf t).length = m) := Lib.hid (by omega)
  have hm400 : m ≤ 400 := by omega
  have hcut := Lib.hid (fun x hx => c_Split 10 t x hx ht)
  rw [hm] at hcut
  have hsz := Lib.hid (fun p (hp : p ∈ cut 10 t) => Nat.le_trans (cut_size hp) h400)
  clear hw1 hw2 hm hlen hcl hcp h4 hE hg1 hb1
  obtain ⟨S, hS⟩ : ∃ S, w.heap.size = S := ⟨_, rfl⟩
  obtain ⟨b, hb⟩ : ∃ b, w1.heap.size = b := ⟨_, rfl⟩
  have HS := Lib.hid hS
  rw [hS] at hz1 hSt
  rw [hb] at hz1 hz2 hBd hSt
  obtain rfl : b = S + 1 := hz1
  clear hb
  clear hg2
  go_enter Tryz.func13, Tryz.ntmps13
  go_wp2_with fail
  rw [Hw1.out, Hw2.out]
  refine (hcut.out _ hE2.out).mono ?_
  rintro e w3 ⟨rfl, hw3⟩
  have hBn := Blk.new w2 9 ((cut 10 t).map Value.string).toArray
  rw [← hw3] at hBn
  have hg3 : w2.grownBy w3 none := by rw [hw3]; exact gb_alloc (gb_refl _ _) _
  have hoL := own_of_blk (lo := S + 1) (size := 1) (n := m + 1) hBn (by simp [Hm.out]) (by omega) (by omega)
  rw [hz2] at hoL
  have hoL : w3.ownsRow (S + 1) 9 1 (.slice (some ⟨S + 1 + 1, 0, none⟩) (m + 1) (m + 1)) (m + 1) ((cut 10 t).map Value.string) := hoL
  have hBd3 := hBd.grown hg3
  have hSt3 := hSt.grown hg3
  have hB3 : Below w.heap.size w w3 := gb_below (gb_trans hG2 hg3)
  have hz3 := hg3.size
  have w1' : IntKind.i64.wrap (((m : Int) + 1) - 1) = (m : Int) := by rw [IntWalk.i64_in _ (by omega)]; omega
  clear hBn hw3 hBd hSt hg3 hcut hG2
  go_wp2
  go_loopw [19] (fun i wr => ∃ (k : Nat) (o : ByteArray), k ≤ m ∧ i = .int .i64 (k : Int) ∧ o.size ≤ 6000 * k ∧ Bdr wr (S + 1) (S + 1) o ∧ State wr (S + 1) S (runLines ((linesOf t).take k)).1 ∧ Below w.heap.size w wr ∧
    wr.ownsRow (S + 1) 9 1 (.slice (some ⟨S + 1 + 1, 0, none⟩) (m + 1) (m + 1)) (m + 1) ((cut 10 t).map Value.string) ∧ w3.heap.size ≤ wr.heap.size ∧ Hid (o = (runLines ((linesOf t).take k)).2)) (fun i _ => m - (intOf i).toNat)
  case atStart => exact ⟨0, ⟨#[]⟩, Nat.zero_le _, rfl, Nat.le_refl _, hBd3, hSt3, hB3, hoL, Nat.le_refl _, Lib.hid rfl⟩
  case round =>
    obtain ⟨k, o, hk, rfl, hos, hBr, hSr, hbel, hL, hzr, hO⟩ := hrel
    have hran := ran_take hls.out k
    have HEr := Lib.hid (HE.out.below hbel)
    have hSw : w.heap.size = S := HS.out
    by_cases hlt : k < m
    · obtain ⟨b', off', l, he, hl, hcell⟩ := Strs.at_ (Sl.own hL) (k := k) (by omega)
      injection he with he
      injection he with he1 he2
      subst he1 he2
      rw [Nat.zero_add] at hcell
      have hlat := Lib.hid (line_at hl.out (by rw [Hm.out]; omega))
      have hl4 : l.size ≤ 400 := hsz.out l (List.mem_of_getElem? hl.out)
      have hstep := Lib.hid (runLines_step hlat.out)
      have hok := Lib.hid hran.ok
      obtain ⟨ps, hps⟩ : ∃ ps, (runLines ((linesOf t).take k)).1 = ps := ⟨_, rfl⟩
      rw [hps] at hSr hstep hok
      have hlk : (k : Int) < (m : Int) := by omega
      have hk0 : (0 : Int) ≤ (k : Int) := by omega
      have hw2 := Lib.hid (fun x hx => c_Split 32 l x hx (by omega))
      have hws : Hid (∀ p ∈ cut 32 l, p.size ≤ 400) := Lib.hid (fun p hp => Nat.le_trans (cut_size hp) hl4)
      have hcp := cut_pos 32 l
      have hcl := cut_len 32 l
      have hsr := lineRes_size ps (cut 32 l)
      obtain ⟨ws, hwe⟩ : ∃ ws, cut 32 l = ws := ⟨_, rfl⟩
      rw [hwe] at hw2 hws hcp hcl hsr hstep
      obtain ⟨q, hq⟩ : ∃ q, ws.length = q := ⟨_, rfl⟩
      have hq' := Lib.hid hq
      rw [hq] at hw2 hcp hcl
      have hq401 : q ≤ 401 := by omega
      clear hwe hcl hran hq hps
      obtain ⟨r1, r2, hr⟩ : ∃ r1 r2, lineRes ps ws = (r1, r2) := ⟨_, _, rfl⟩
      rw [hr] at hsr hstep
      have hrs : r2.size ≤ 6000 := hsr
      have hcx := Lib.hid (fun x hg hown => c_execute (S + 1) S ps wr x (some ⟨wr.heap.size, 0, none⟩) q q ws hg hSr (Nat.lt_succ_self S) (by omega) hok.out HEr.out hown hcp (by omega) hws.out)
      rw [hr] at hcx
      obtain ⟨O, hOe⟩ : ∃ O, o ++ r2 = O := ⟨_, rfl⟩
      have hOs : O.size ≤ 6000 * (k + 1) := by rw [← hOe, ByteArray.size_append]; omega
      have hcw := Lib.hid (fun x hx => c_write (S + 1) (S + 1) o r2 O x hx hOe (by omega))
      have hfin : Hid ((runLines ((linesOf t).take (k + 1))).1 = r1 ∧ O = (runLines ((linesOf t).take (k + 1))).2) := Lib.hid (by
        rw [hstep.out, ← hO.out]
        exact ⟨rfl, hOe.symm⟩)
      clear hOe hr hsr
      go_wp2_with fail
      refine (hw2.out _ HEr.out).mono ?_
      rintro e w4 ⟨rfl, hw4⟩
      have hBn := Blk.new wr 9 (ws.map Value.string).toArray
      rw [← hw4] at hBn
      have hg4 : wr.grownBy w4 none := by rw [hw4]; exact gb_alloc (gb_refl _ _) _
      have hoW := own_of_blk (lo := wr.heap.size) (size := 1) (n := q) hBn (by simp [hq'.out]) (by omega) (Nat.le_refl _)
      have hoW : w4.ownsRow wr.heap.size 9 1 (.slice (some ⟨wr.heap.size, 0, none⟩) q q) q (ws.map Value.string) := hoW
      clear hBn hw4
      go_wp2_with fail
      refine (hcx.out _ hg4 hoW).mono ?_
      rintro e w5 ⟨rfl, hg5, hS5⟩
      have hB5 := hBr.grownS hg5 (Nat.lt_succ_self S)
      have hb5 := below_gbS hbel hg5 (by omega) (by omega)
      have hL5 := own_kept hL hg5 (fun j e => by injection e with e; subst e; exact .inl (Nat.lt_succ_self _))
      have hz5 := hg5.size
      simp only at hS5
      clear hg4 hoW hcx hw2
      go_wp2_with fail
      refine (hcw.out _ hB5).mono ?_
      rintro e w6 ⟨rfl, hB6, hK6⟩
      have hS6 := State.bkeep hS5 hB5 hK6 (Nat.lt_succ_self S)
      have hb6 := hb5.trans (below_less hK6.below (by omega))
      have hL6 := own_bkeep hL5 hB5 hK6 (by decide) (by decide)
      have hz6 := hK6.below.size
      clear hS5 hB5 hb5 hL5 hcw hK6
      go_wp2
      go_roundw
      case rel => exact ⟨k + 1, O, by omega, by go_num, hOs, hB6, by rw [hfin.out.1]; exact hS6, hb6, hL6, by omega, Lib.hid hfin.out.2⟩
      case measure => simp [intOf]; omega
    · obtain rfl : k = m := by omega
      have hall : (linesOf t).take k = linesOf t := List.take_of_length_le (by rw [hll.out]; exact Nat.le_refl _)
      rw [hall] at hSr hO hran
      have hx' := hx.out
      rw [← hO.out] at hx'
      unfold tailText at hx'
      obtain ⟨ps, hps⟩ : ∃ ps, (runLines (linesOf t)).1 = ps := ⟨_, rfl⟩
      have hok := hran.ok
      rw [hps] at hSr hx' hok
      have hsum := hok.sum
      have hfew := hok.few
      obtain ⟨A, N, c, hBl, hP⟩ := hSr
      have hPl : Piles wr (S + 1) A N c ps := Sl.own hP
      have hpn := hPl.len
      have hpt : pTotal ps = sumPl ps := by unfold pTotal; rw [hok.1, if_pos rfl]
      have Hs := Lib.hid hok.sizes
      obtain ⟨X, hX⟩ : ∃ X : Nat, sumPl ps = (X : Int) := ⟨(sumPl ps).toNat, by omega⟩
      rw [hX] at hpt
      have hct := Lib.hid (fun x hx => c_impl_PilesTotal (S + 1) A N c ps x hx Hs.out)
      rw [hpt] at hct
      rw [hX, Int.toNat_natCast, hpn, ← tail_row] at hx'
      have hX1 : X ≤ 1188 := by omega
      have hN12 : N ≤ 12 := by omega
      have hzX : ∀ z ∈ [(X : Int)], 0 ≤ z ∧ z ≤ 1000000 := fun z hz => by rw [List.mem_singleton] at hz; omega
      have hzN : ∀ z ∈ [(N : Int)], 0 ≤ z ∧ z ≤ 1000000 := fun z hz => by rw [List.mem_singleton] at hz; omega
      have z1 := rowText_size hzX
      have z2 := rowText_size hzN
      have hr1 := Lib.hid (fun x g hb hT => c_numbersText g (some ⟨g, 0, none⟩) 1 1 [(X : Int)] x (ints_blk hb) hzX (by omega) hT)
      have hr2 := Lib.hid (fun x g hb hT => c_numbersText g (some ⟨g, 0, none⟩) 1 1 [(N : Int)] x (ints_blk hb) hzN (by omega) hT)
      obtain ⟨R1, hR1⟩ : ∃ R, rowText [(X : Int)] = R := ⟨_, rfl⟩
      obtain ⟨R2, hR2⟩ : ∃ R, rowText [(N : Int)] = R := ⟨_, rfl⟩
      rw [hR1] at hr1 z1 hx'
      rw [hR2] at hr2 z2 hx'
      obtain ⟨T1, hT1⟩ : ∃ T, tBal0 ++ R1 = T := ⟨_, rfl⟩
      obtain ⟨T2, hT2⟩ : ∃ T, T1 ++ tPil0 = T := ⟨_, rfl⟩
      obtain ⟨T3, hT3⟩ : ∃ T, T2 ++ R2 = T := ⟨_, rfl⟩
      obtain ⟨T4, hT4⟩ : ∃ T, T3 ++ tNl = T := ⟨_, rfl⟩
      obtain ⟨U, hU⟩ : ∃ T, o ++ T4 = T := ⟨_, rfl⟩
      rw [hT1, hT2, hT3, hT4, hU] at hx'
      have l1 : tBal0.size = 7 := rfl
      have l2 : tPil0.size = 6 := rfl
      have l3 : tNl.size = 1 := rfl
      have l4 : [(X : Int)].length = 1 := rfl
      have l5 : [(N : Int)].length = 1 := rfl
      have y1 : T1.size = 7 + R1.size := by rw [← hT1, ByteArray.size_append, l1]
      have y2 : T2.size = T1.size + 6 := by rw [← hT2, ByteArray.size_append, l2]
      have y3 : T3.size = T2.size + R2.size := by rw [← hT3, ByteArray.size_append]
      have y4 : T4.size = T3.size + 1 := by rw [← hT4, ByteArray.size_append, l3]
      have y5 : U.size = o.size + T4.size := by rw [← hU, ByteArray.size_append]
      have a1 := add_str _ _ _ hT1 (by omega)
      have a2 := add_str _ _ _ hT2 (by omega)
      have a3 := add_str _ _ _ hT3 (by omega)
      have a4 := add_str _ _ _ hT4 (by omega)
      have hcw := Lib.hid (fun x hx => c_write (S + 1) (S + 1) o T4 U x hx hU (by omega))
      unfold tBal0 at a1
      unfold tPil0 at a2
      unfold tNl at a4
      have Hx := Lib.hid hx'
      have p0 := hBl.cell 0
      simp only [List.getElem?_toArray, List.getElem?_cons_zero] at p0
      clear hT1 hT2 hT3 hT4 hU l1 l2 l3 l4 l5 y1 y2 y3 y4 y5 z1 z2 hR1 hR2 hx' hall hps hX hsum hfew hpn hok hran hpt hzX hzN
      have hlk : ¬ (k : Int) < (k : Int) := by omega
      have hw0 : w.heap.size ≤ wr.heap.size := by omega
      go_wp2_with fail
      refine wp_flow_tail [_, _, _, _, _, _, _, _, _, _, _, _, _, _] _ rfl (by kernel_rfl) (by kernel_rfl) (by kernel_rfl) (PC wr) PT (endFacts S (.slice A N c) (X : Int) (N : Int) R1 T1 T2 R2 T3 T4) (gb_drew (gb_refl _ _)) (fun n x y h k => gb_trans k h) (fun n x y h _ i v hv => endFacts_kept h i v hv) ?_ ?_
      · refine ⟨fun i v x hn hC hp => ?_, fun i v x hn hC hp => ?_, fun i v x hn hC hp => ?_, fun i v x hn hC hp => ?_, fun i v x hn hC hp => ?_, fun i v x hn hC hp => ?_, fun i v x hn hC hp => ?_, fun i v x hn hC hp => ?_, fun i v x hn hC hp => ?_, fun i v x hn hC hp => ?_, fun i v x hn hC hp => ?_, fun i v x hn hC hp => ?_, fun i v x hn hC hp => ?_, fun i v x hn hC hp => ?_, trivial⟩
        · clear hp; go_simp; exact ⟨gb_refl _ _, rfl⟩
        · have f0 : v 0 = .pointer (some ⟨S, 0, none⟩) := hp 0 (by decide)
          have p0' := gb_cell hC p0 (by simp)
          clear hp; go_simp; exact ⟨gb_refl _ _, rfl⟩
        · have f1 : v 1 = .slice A N c := hp 1 (by decide)
          clear hp; go_simp
          refine (hct.out _ (hPl.keep0 hC)).mono ?_
          rintro e y ⟨rfl, hg⟩
          exact ⟨_, rfl, hg, rfl⟩
        · have f2 : v 2 = .int .i64 (X : Int) := hp 2 (by decide)
          clear hp; go_simp; exact ⟨gb_alloc (gb_refl _ _) _, _, rfl, Blk.new _ _ _⟩
        · obtain ⟨g, f3, hb⟩ := (show ∃ g, v 3 = .slice (some ⟨g, 0, none⟩) 1 1 ∧ Blk x g 3 #[.int .i64 (X : Int)] from hp 3 (by decide))
          clear hp; go_simp
          refine (hr1.out _ _ hb (HEr.out.tab.grown hC)).mono ?_
          rintro e y ⟨rfl, hg⟩
          exact ⟨_, rfl, hg, rfl⟩
        · have f4 : v 4 = .string R1 := hp 4 (by decide)
          clear hp; go_simp; exact ⟨gb_refl _ _, rfl⟩
        · have f5 : v 5 = .string T1 := hp 5 (by decide)
          clear hp; go_simp; exact ⟨gb_refl _ _, rfl⟩
        · clear hp; go_simp; exact ⟨gb_refl _ _, rfl⟩
        · have f7 : v 7 = .pointer (some ⟨S, 0, none⟩) := hp 7 (by decide)
          have p0' := gb_cell hC p0 (by simp)
          clear hp; go_simp; exact ⟨gb_refl _ _, rfl⟩
        · have f8 : v 8 = .slice A N c := hp 8 (by decide)
          clear hp; go_simp; exact ⟨gb_refl _ _, rfl⟩
        · have f9 : v 9 = .int .i64 (N : Int) := hp 9 (by decide)
          clear hp; go_simp; exact ⟨gb_alloc (gb_refl _ _) _, _, rfl, Blk.new _ _ _⟩
        · obtain ⟨g, f10, hb⟩ := (show ∃ g, v 10 = .slice (some ⟨g, 0, none⟩) 1 1 ∧ Blk x g 3 #[.int .i64 (N : Int)] from hp 10 (by decide))
          clear hp; go_simp
          refine (hr2.out _ _ hb (HEr.out.tab.grown hC)).mono ?_
          rintro e y ⟨rfl, hg⟩
          exact ⟨_, rfl, hg, rfl⟩
        · have f6 : v 6 = .string T2 := hp 6 (by decide)
          have f11 : v 11 = .string R2 := hp 11 (by decide)
          clear hp; go_simp; exact ⟨gb_refl _ _, rfl⟩
        · have f12 : v 12 = .string T3 := hp 12 (by decide)
          clear hp; go_simp; exact ⟨gb_refl _ _, rfl⟩
      · intro i v x hn hC hp
        have f13 : v 13 = .string T4 := hp 13 (by decide)
        have hBx := hBr.grown hC
        have hbx := hbel.trans (below_less (gb_below hC) hw0)
        have hzx := hC.size
        clear hp hct hr1 hr2
        go_simp
        go_wp2_with fail
        refine (hcw.out _ hBx).mono ?_
        rintro e w6 ⟨rfl, hB6, hK6⟩
        have hb6 := hbx.trans (below_less hK6.below (by omega))
        go_wp2_with fail
        refine (c_read _ _ U _ hB6).mono ?_
        rintro e w7 ⟨rfl, hK7⟩
        have hz6 := hK6.below.size
        have hb7 := hb6.trans (below_less hK7.below (by omega))
        go_wp2
        go_ret
        exact ⟨ret_str Hx.out.symm, gb_of_below hb7 none⟩
end Go.Proofs.YtboobimpoddacaaGreatDoor

namespace Go.Proofs.YtboobimpoddacaaGreatDoor
open Go.RowKit
set_option linter.unusedVariables false

theorem gPow : Tryz.prog.globalNamed "internal/strconv.uint64pow10" = some 5 := by kernel_rfl
theorem tPow : (Tryz.prog.globals[5]?).map (·.type) = some 156 := by kernel_rfl
theorem cellsE : Tryz.prog.cellsOf 131 = 1 := by kernel_rfl
theorem cellsT : Tryz.prog.cellsOf 156 = 20 := by kernel_rfl
theorem gSyn : Tryz.prog.globalNamed "strconv.ErrSyntax" = some 3 := by kernel_rfl
theorem tSyn : (Tryz.prog.globals[3]?).map (·.type) = some 41 := by kernel_rfl
theorem gRng : Tryz.prog.globalNamed "strconv.ErrRange" = some 4 := by kernel_rfl
theorem tRng : (Tryz.prog.globals[4]?).map (·.type) = some 41 := by kernel_rfl
theorem cellsErr : Tryz.prog.cellsOf 163 = 1 := by kernel_rfl
theorem cellsStr : Tryz.prog.cellsOf 9 = 1 := by kernel_rfl
theorem starErr : "*" ++ "errors.errorString" = "*errors.errorString" := by decide
theorem rowErr (u : TypeId) (h : Tryz.prog.typeName? 3 u = some "*errors.errorString") : u = 161 :=
  typeName_ptr_named (nm := "errors.errorString") (by rw [starErr]; kernel_rfl) (by kernel_rfl) (by decide) u (by rw [starErr]; exact h)
/-- What a row lists. -/
abbrev laidAll : List (String × DataW Unit) := Rows.fnExactExecuteRow.laid
theorem env_of {W : World} (h : laidMetH Tryz.prog laidAll W) (hsh : W.ShapedOpen Tryz.prog) : Env W := by
  have h1 : laidMet Tryz.prog laidAll W := h
  have h2 : laidMet Tryz.prog (laidAll.drop 2) W := laidMet.tail (laidMet.tail h1)
  have h4 : laidMet Tryz.prog (laidAll.drop 4) W := laidMet.tail (laidMet.tail h2)
  have h5 : laidMet Tryz.prog (laidAll.drop 5) W := laidMet.tail h4
  refine ⟨Lib.tabIs_of_head (rest := laidAll.drop 3) gPow tPow Tryz.underlying156 Tryz.underlying131 cellsE cellsT h2, ?_, ?_, ?_⟩
  · exact cell_of_shapedOpen_int (t := 3) (zero := #[.int .i64 0]) hsh (of_decide_eq_true (by kernel_rfl)) (by kernel_rfl) rfl (by kernel_rfl) (by kernel_rfl) Tryz.underlying3
  · obtain ⟨a, s, hv, _⟩ := laid_sentinel (r := laidAll.drop 6) h5 gSyn tSyn Tryz.underlying41 rowErr Tryz.underlying161 Tryz.underlying163 rfl rfl Tryz.underlying9 cellsErr cellsStr
    exact ⟨_, _, by have h0 := World.var?_cell gSyn hv 0; simpa using h0⟩
  · obtain ⟨a, s, hv, _⟩ := laid_sentinel (r := laidAll.drop 5) h4 gRng tRng Tryz.underlying41 rowErr Tryz.underlying161 Tryz.underlying163 rfl rfl Tryz.underlying9 cellsErr cellsStr
    exact ⟨_, _, by have h0 := World.var?_cell gRng hv 0; simpa using h0⟩
/-- A world in which all listed variables lie. -/
theorem door_met (os : Os) (args : Array Value) : laidMetH Tryz.prog laidAll ((World.laidAll Tryz.prog os laidAll).forCall (fun _ _ => 0) ⟨#[], args, []⟩).memory := by
  rw [MakeChecks.laidMetH_plain _ _ _ (by kernel_rfl)]
  exact laidMet_laidAll _ (by kernel_rfl) (by kernel_rfl)
theorem door_shaped (os : Os) : (World.laidAll Tryz.prog os laidAll).Shaped Tryz.prog := World.shaped_of_ZipB (by kernel_rfl) (by kernel_rfl)

/-- The row's builder, where the walk asks both what the row lists and the world's shape. -/
theorem lift_both {H : Type} {enc : TypeId × Value → H} {C : Checked} {os : Os} {f : FuncId} {fn : Func} {s : ChangeSpec} {conds : List PathCond} {apart fresh handsOn again : Bool} {X : World → Array Value → Prop}
    (hX : ∀ (w w' : World) (args : Array Value), w.heap = w'.heap → X w args → X w' args)
    (own : ownKnob C.prog.godebug = none) (started : os.Started) (noInit : C.prog.inits.idxOf? f = none) (hfn : C.prog.funcs[f]? = some fn)
    (witness : ∃ (w : World) (tape : Tape) (i : Input), w.os = os ∧ (w.forCall tape i).Shaped C.prog ∧ i.vars = [] ∧ Input.okWide C.prog (w.forCall tape i) .any w.heap.size f i ∧
      ((s.pre enc C.prog fn conds apart (w.forCall tape i).memory i.args ∧ X (w.forCall tape i).memory i.args) ∧ sizedMet enc C.prog fn (OpenSpec.ofChange s) apart (w.forCall tape i).memory i.args) ∧ Assume.holds {} C.prog (lone (Frame.enter C.prog f i.args .normal) [] (w.forCall tape i)))
    (contract : ∀ (W : World) (base : Nat) (args : Array Value) (ds gs : List (DataW H)) (before : List MemPlace),
      (∀ (j : Nat) t v, fn.params[j]? = some t → args[j]? = some v → Value.okWide C.prog W .any base t v) →
      DataW.Whole enc C.prog fn.params.toList s.vars apart W args.toList ds gs before → X W args → W.ShapedOpen C.prog →
      Calls C.prog f args W fun e W' => ∃ v, e = .returned v ∧ s.post enc C.prog fn apart fresh handsOn again W args v W') :
    ReturnsInHanded {} C os f .any (fun w args => (s.pre enc C.prog fn conds apart w args ∧ X w args) ∧ sizedMet enc C.prog fn (OpenSpec.ofChange s) apart w args) (s.post enc C.prog fn apart fresh handsOn again) := by
  refine returnsInHanded_of_calls own started noInit witness fun w tape i _ hsh _ hok hpre _ => ?_
  obtain ⟨_, _, _, fn2, hfn2, _, _, _, _, hval⟩ := hok
  obtain rfl : fn2 = fn := Option.some.inj (hfn2.symm.trans hfn)
  obtain ⟨⟨⟨ds, gs, before, hw, _⟩, hx⟩, _⟩ := hpre
  refine (contract (w.forCall tape i) w.heap.size i.args ds gs before hval (DataW.Whole.of_heap (w' := w.forCall tape i) (by rfl) hw) (hX _ _ _ (by rfl) hx) hsh).mono fun e W' he => ?_
  obtain ⟨v, rfl, hp⟩ := he
  exact ChangeSpec.post_blind hp
end Go.Proofs.YtboobimpoddacaaGreatDoor
