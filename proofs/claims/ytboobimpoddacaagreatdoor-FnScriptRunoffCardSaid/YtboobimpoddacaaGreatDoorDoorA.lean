/-
  Numbers in decimals, by the reference: l6Dec (it calls itself).
  The text of a contest, its lines and its end (plain).
  Rows of numbers as text, the total of piles, BallotText: of the program and of the reference.
  What a method counts, as lines of text, and the text of a contest: by the reference.
  The text of a contest by the reference.
-/
import Derived.Test.YtboobimpoddacaaGreatDoorPackA
import Derived.Lib.ItoaNum
import Derived.Laws.IdiomStrings
import Derived.Laws.Concat
import Derived.Test.YtboobimpoddacaaGreatDoorContest
import Derived.Test.YtboobimpoddacaaGreatDoorPTotal
import Derived.Test.YtboobimpoddacaaGreatDoorShelf
import Derived.Test.YtboobimpoddacaaGreatDoorConA
import Derived.Lib.SmallJoins
import Derived.Lib.BufferOwn
import Derived.Lib.AppendIntMem
namespace Go.Proofs.YtboobimpoddacaaGreatDoor
open Go.RowKit
set_option linter.unusedVariables false

/-- A number's decimals. -/
def dec (n : Nat) : ByteArray := ⟨(Lib.decDigits n).toArray⟩
theorem dec_small {n : Nat} (h : n < 10) : dec n = ⟨#[UInt8.ofNat (48 + n)]⟩ := by
  unfold dec
  rw [Lib.decDigits, dif_pos h]
theorem dec_big {n : Nat} (h : ¬ n < 10) : dec n = dec (n / 10) ++ ⟨#[UInt8.ofNat (48 + n % 10)]⟩ := by
  unfold dec
  rw [Lib.decDigits.eq_def n, dif_neg h]
  exact (ByteArray.mk_append_mk _ [UInt8.ofNat (48 + n % 10)]).symm
theorem dec_len : ∀ (k n : Nat), n < 10 ^ (k + 1) → (Lib.decDigits n).length ≤ k + 1
  | 0, n, h => by
    rw [Lib.decDigits, dif_pos (by omega)]
    simp
  | k + 1, n, h => by
    rw [Lib.decDigits]
    split
    · simp
    · have := dec_len k (n / 10) (by rw [Nat.pow_succ] at h; omega)
      rw [List.length_append]
      simp
      omega
theorem dec_size {n : Nat} (h : n < 1000000000000000000) : (dec n).size ≤ 18 := by
  have := dec_len 17 n (by omega)
  unfold dec
  simpa [ByteArray.size] using this
/-- What the operations of the last region leave. -/
def decFacts (n Q R : Nat) (B : UInt8) : Nat → Value → World → Prop
  | 0 => fun v _ => v = .int .i64 (n : Int)
  | 1 => fun v _ => v = .int .i64 (Q : Int)
  | 2 => fun v _ => v = .string (dec Q)
  | 3 => fun v _ => v = .int .i64 (n : Int)
  | 4 => fun v _ => v = .int .i64 (R : Int)
  | 5 => fun v _ => v = .int .i64 ((48 + R : Nat) : Int)
  | 6 => fun v _ => v = .int .u8 ((48 + R : Nat) : Int)
  | 7 => fun v x => ∃ g, v = .slice (some ⟨g, 0, none⟩) 1 1 ∧ Blk x g 5 #[.int .u8 ((48 + R : Nat) : Int)]
  | 8 => fun v _ => v = .string ⟨#[B]⟩
  | _ => fun v _ => v = .string (dec n)
theorem decFacts_kept {n Q R : Nat} {B : UInt8} {x y : World} (hg : x.grownBy y none) : ∀ i v, decFacts n Q R B i v x → decFacts n Q R B i v y := by
  intro i v hv
  unfold decFacts at *
  split at hv
  all_goals first | exact hv | (obtain ⟨g, e, hb⟩ := hv; exact ⟨g, e, hb.grown hg (by simp)⟩)
theorem conv_one (w : World) (g c k : Nat) (hk : k < 256) (hB : Blk w g 5 #[.int .u8 (k : Int)]) : (convert 22 9 (.slice (some ⟨g, 0, none⟩) 1 c)).run Tryz.prog w = .ok (.string ⟨#[UInt8.ofNat k]⟩) w := by
  have := run_convert_bytes_back (P := Tryz.prog) w 22 9 5 ⟨g, 0, none⟩ c [UInt8.ofNat k] Tryz.underlying22 Tryz.underlying5 Tryz.underlying9 (fun j hj => by
    obtain rfl : j = 0 := by simpa using hj
    have h0 := hB.cell 0
    rw [add_off]
    simp at h0 ⊢
    rw [h0]
    congr 2
    omega)
  simpa using this

attribute [local go_sem] flowAct flowOp_def flowUpon
set_option maxHeartbeats 2000000 in
set_option maxRecDepth 100000 in
theorem c_l6Dec : ∀ (n : Nat), n < 1000000000000000000 → ∀ w : World, Calls Tryz.prog 29 #[.int .i64 n] w fun e w' => e = .returned (.string (dec n)) ∧ w.grownBy w' none := by
  intro n
  induction n using Nat.strongRecOn with
  | _ n ih =>
    intro hn w
    by_cases h10 : n < 10
    · have hd := Lib.hid (dec_small h10)
      have hb := Blk.new w 5 #[.int .u8 ((48 + n : Nat) : Int)]
      have hcv := conv_one (w.alloc (.cells #[.int .u8 ((48 + n : Nat) : Int)] 5)) w.heap.size 1 (48 + n) (by omega) hb
      have hw1 : IntKind.i64.wrap (48 + (n : Int)) = ((48 + n : Nat) : Int) := by rw [IntWalk.i64_in _ (by omega)]; omega
      have hw2 : IntKind.u8.wrap ((48 + n : Nat) : Int) = ((48 + n : Nat) : Int) := by rw [IntKind.wrap_u8]; omega
      obtain ⟨K, hK⟩ : ∃ K, 48 + n = K := ⟨_, rfl⟩
      rw [hK] at hcv hw1 hw2 hd
      have hlo : ¬ (n : Int) < -9223372036854775807 := by omega
      have hn0 : ¬ (n : Int) < 0 := by omega
      have h10' : (n : Int) < 10 := by omega
      clear hb hK ih
      go_enter Tryz.func29, Tryz.ntmps29
      go_wp2_with (simp only [hcv])
      go_ret
      exact ⟨ret_str hd.out.symm, gb_alloc (gb_refl _ _) _⟩
    · obtain ⟨Q, hQ⟩ : ∃ Q, n / 10 = Q := ⟨_, rfl⟩
      obtain ⟨R, hR⟩ : ∃ R, n % 10 = R := ⟨_, rfl⟩
      obtain ⟨B, hB⟩ : ∃ B, UInt8.ofNat (48 + R) = B := ⟨_, rfl⟩
      have hR10 : R < 10 := by omega
      have hd := dec_big h10
      have hrec := Lib.hid (ih (n / 10) (by omega) (by omega))
      rw [hQ] at hd hrec
      rw [hR, hB] at hd
      have hs1 : (dec Q).size ≤ 18 := dec_size (by omega)
      have hdh := Lib.hid hd
      have hlo : ¬ (n : Int) < -9223372036854775807 := by omega
      have hn0 : ¬ (n : Int) < 0 := by omega
      have h10' : ¬ (n : Int) < 10 := by omega
      have hq1 : (n : Int).tdiv 10 = (Q : Int) := by rw [Int.tdiv_eq_ediv_of_nonneg (by omega)]; omega
      have hr1 : (n : Int).tmod 10 = (R : Int) := by rw [Int.tmod_eq_emod_of_nonneg (by omega)]; omega
      have hq2 : (n : Int) / 10 = (Q : Int) := by omega
      have hr2 : (n : Int) % 10 = (R : Int) := by omega
      have hw1 : IntKind.i64.wrap (48 + (R : Int)) = ((48 + R : Nat) : Int) := by rw [IntWalk.i64_in _ (by omega)]; omega
      have hw2 : IntKind.u8.wrap ((48 + R : Nat) : Int) = ((48 + R : Nat) : Int) := by rw [IntKind.wrap_u8]; omega
      have hqw : IntKind.i64.wrap (Q : Int) = (Q : Int) := IntWalk.i64_in _ (by omega)
      have hK256 : 48 + R < 256 := by omega
      obtain ⟨K, hK⟩ : ∃ K, 48 + R = K := ⟨_, rfl⟩
      have hcv := Lib.hid (fun (x : World) (g : Nat) (hb : Blk x g 5 #[.int .u8 ((48 + R : Nat) : Int)]) => conv_one x g 1 (48 + R) hK256 hb)
      rw [hB] at hcv
      clear ih hd hR hQ hB h10 hn
      have hfk : ∀ {x y : World}, x.grownBy y none → ∀ i v, decFacts n Q R B i v x → decFacts n Q R B i v y := fun h => decFacts_kept h
      go_enter Tryz.func29, Tryz.ntmps29
      go_wp2_with fail
      refine wp_flow (by kernel_rfl) (by kernel_rfl) (PC w) PT (decFacts n Q R B) (gb_drew (gb_refl _ _)) (fun n x y h k => gb_trans k h) (fun n x y h _ i v hv => hfk h i v hv) ?_ ?_
      · refine ⟨fun i u x hn hC hp => ?_, fun i u x hn hC hp => ?_, fun i u x hn hC hp => ?_, fun i u x hn hC hp => ?_, fun i u x hn hC hp => ?_, fun i u x hn hC hp => ?_, fun i u x hn hC hp => ?_, fun i u x hn hC hp => ?_, fun i u x hn hC hp => ?_, fun i u x hn hC hp => ?_, fun i u x hn hC hp => ?_, trivial⟩
        · clear hp; go_simp; exact ⟨gb_refl _ _, rfl⟩
        · have e1 : u 0 = .int .i64 (n : Int) := hp 0 (by decide)
          clear hp hw1 hw2; go_simp; exact ⟨gb_refl _ _, rfl⟩
        · have e1 : u 1 = .int .i64 (Q : Int) := hp 1 (by decide)
          clear hp
          go_simp
          refine (hrec.out x).mono ?_
          rintro e y ⟨rfl, hg⟩
          exact ⟨_, rfl, hg, rfl⟩
        · clear hp; go_simp; exact ⟨gb_refl _ _, rfl⟩
        · have e1 : u 3 = .int .i64 (n : Int) := hp 3 (by decide)
          clear hp; go_simp; exact ⟨gb_refl _ _, rfl⟩
        · have e1 : u 4 = .int .i64 (R : Int) := hp 4 (by decide)
          rw [hK] at hw1
          clear hp hw2
          go_simp
          exact ⟨gb_refl _ _, by rw [← hK]; rfl⟩
        · have e1 : u 5 = .int .i64 ((48 + R : Nat) : Int) := hp 5 (by decide)
          rw [hK] at hw2 e1
          clear hp hw1
          go_simp
          exact ⟨gb_refl _ _, by rw [← hK]; rfl⟩
        · have e1 : u 6 = .int .u8 ((48 + R : Nat) : Int) := hp 6 (by decide)
          rw [hK] at e1
          clear hp hw1 hw2
          go_simp
          exact ⟨gb_alloc (gb_refl _ _) _, _, rfl, by rw [hK]; exact Blk.new _ _ _⟩
        · obtain ⟨g, e1, hB⟩ := (show ∃ g, u 7 = .slice (some ⟨g, 0, none⟩) 1 1 ∧ Blk x g 5 #[.int .u8 ((48 + R : Nat) : Int)] from hp 7 (by decide))
          have hcv' := hcv.out x g hB
          clear hp
          go_simp
          exact ⟨gb_refl _ _, rfl⟩
        · have e1 : u 2 = .string (dec Q) := hp 2 (by decide)
          have e2 : u 8 = .string ⟨#[B]⟩ := hp 8 (by decide)
          have hs : (dec Q).size + (⟨#[B]⟩ : ByteArray).size ≤ 9223372036854775807 := by
            have : (⟨#[B]⟩ : ByteArray).size = 1 := rfl
            omega
          have hadd := run_string_add_sum (P := Tryz.prog) x (dec Q) ⟨#[B]⟩ hs
          rw [← hdh.out] at hadd
          clear hp hw1 hw2
          go_simp
          exact ⟨gb_refl _ _, rfl⟩
        · have e1 : u 9 = .string (dec n) := hp 9 (by decide)
          clear hp; go_simp; exact ⟨gb_refl _ _, rfl⟩
      · intro i u x hn hC hp
        have e1 : u 10 = .string (dec n) := hp 10 (by decide)
        clear hp
        go_simp
        go_wp2
        go_ret
        exact ⟨rfl, hC⟩
end Go.Proofs.YtboobimpoddacaaGreatDoor

namespace Go.Proofs.YtboobimpoddacaaGreatDoor
open Go.RowKit
set_option linter.unusedVariables false

/-- The texts of a list, one behind the other. -/
def catOf {α : Type} (f : α → ByteArray) (xs : List α) : ByteArray := xs.foldl (fun t x => t ++ f x) ⟨#[]⟩
theorem catOf_snoc {α : Type} (f : α → ByteArray) (xs : List α) (x : α) : catOf f (xs ++ [x]) = catOf f xs ++ f x := by simp [catOf]
theorem catOf_one {α : Type} (f : α → ByteArray) (x : α) : catOf f [x] = f x := by simp [catOf]; exact ByteArray.empty_append
theorem catOf_size {α : Type} {f : α → ByteArray} {c : Nat} {xs : List α} (h : ∀ x ∈ xs, (f x).size ≤ c) : (catOf f xs).size ≤ c * xs.length := by
  have key : ∀ (xs : List α) (t : ByteArray), (∀ x ∈ xs, (f x).size ≤ c) → (xs.foldl (fun t x => t ++ f x) t).size ≤ t.size + c * xs.length := by
    intro xs
    induction xs with
    | nil => intro t _; simp
    | cons x xs ih =>
      intro t h
      have h1 := ih (t ++ f x) (fun y hy => h y (List.mem_cons_of_mem _ hy))
      have h2 := h x (by simp)
      rw [ByteArray.size_append] at h1
      rw [List.foldl_cons, List.length_cons, Nat.mul_succ]
      omega
  have := key xs ⟨#[]⟩ h
  have h0 : (⟨#[]⟩ : ByteArray).size = 0 := rfl
  unfold catOf
  omega
/-- How many line ends a text has. -/
def nls (t : ByteArray) : Nat := t.data.toList.count 10
theorem nls_app (a b : ByteArray) : nls (a ++ b) = nls a + nls b := by
  unfold nls
  rw [ByteArray.data_append, Array.toList_append, List.count_append]
theorem catOf_nls {α : Type} {f : α → ByteArray} {k : Nat} {xs : List α} (h : ∀ x ∈ xs, nls (f x) = k) : nls (catOf f xs) = k * xs.length := by
  have key : ∀ (xs : List α) (t : ByteArray), (∀ x ∈ xs, nls (f x) = k) → nls (xs.foldl (fun t x => t ++ f x) t) = nls t + k * xs.length := by
    intro xs
    induction xs with
    | nil => intro t _; simp
    | cons x xs ih =>
      intro t h
      have h1 := ih (t ++ f x) (fun y hy => h y (List.mem_cons_of_mem _ hy))
      have h2 := h x (by simp)
      rw [nls_app] at h1
      rw [List.foldl_cons, List.length_cons, Nat.mul_succ]
      omega
  have := key xs ⟨#[]⟩ h
  have h0 : nls (⟨#[]⟩ : ByteArray) = 0 := rfl
  unfold catOf
  omega
theorem byte_ne {k : Nat} (h1 : 48 ≤ k) (h2 : k < 256) : UInt8.ofNat k ≠ 10 := fun e => by
  have := congrArg UInt8.toNat e
  rw [UInt8.toNat_ofNat'] at this
  have h10 : (10 : UInt8).toNat = 10 := rfl
  omega
theorem dec_nls (n : Nat) : nls (dec n) = 0 := by
  have key : ∀ n : Nat, ∀ d ∈ Lib.decDigits n, d ≠ 10 := by
    intro n
    induction n using Nat.strongRecOn with
    | _ n ih =>
      intro d hd
      rw [Lib.decDigits] at hd
      split at hd
      · rw [List.mem_singleton] at hd
        subst hd
        exact byte_ne (by omega) (by omega)
      · rw [List.mem_append, List.mem_singleton] at hd
        rcases hd with hd | hd
        · exact ih (n / 10) (by omega) d hd
        · subst hd
          exact byte_ne (by omega) (by omega)
  unfold nls dec
  exact List.count_eq_zero.2 (fun h => key n 10 h rfl)
theorem ballotText_nls (xs : List Int) : nls (ballotText xs) = 0 := by
  unfold ballotText
  split
  · rename_i h
    have hall := ((ballotOK_iff xs 5).1 h).2.2
    unfold nls letters
    refine List.count_eq_zero.2 (fun hm => ?_)
    obtain ⟨z, hz, e⟩ := List.mem_map.1 hm
    have hb := hall z hz
    exact byte_ne (k := (97 + z).toNat) (by omega) (by omega) e
  · rfl
/-- Numbers with blanks in front of them. -/
def rowText (xs : List Int) : ByteArray := catOf (fun z => ⟨#[32]⟩ ++ dec z.toNat) xs
theorem rowText_snoc (xs : List Int) (z : Int) : rowText (xs ++ [z]) = rowText xs ++ (⟨#[32]⟩ ++ dec z.toNat) := catOf_snoc _ _ _
theorem rowText_one (z : Int) : rowText [z] = ⟨#[32]⟩ ++ dec z.toNat := catOf_one _ _
theorem rowText_size {xs : List Int} (h : ∀ z ∈ xs, 0 ≤ z ∧ z ≤ 1000000) : (rowText xs).size ≤ 19 * xs.length := catOf_size (fun z hz => by
  have h1 := dec_size (n := z.toNat) (by have := h z hz; omega)
  have h2 : (⟨#[32]⟩ : ByteArray).size = 1 := rfl
  rw [ByteArray.size_append]
  omega)
theorem rowText_nls (xs : List Int) : nls (rowText xs) = 0 := by
  have h := catOf_nls (f := fun z : Int => ⟨#[32]⟩ ++ dec z.toNat) (k := 0) (xs := xs) (fun z _ => by rw [nls_app, dec_nls]; rfl)
  rw [Nat.zero_mul] at h
  exact h
def outText (o : Int) : ByteArray := if 0 ≤ o then ⟨#[32, 111, 117, 116, 32]⟩ ++ ballotText [o] else ⟨#[]⟩
def roundLine (r : Rnd) : ByteArray := ⟨#[114, 111, 117, 110, 100]⟩ ++ rowText r.1 ++ outText r.2 ++ ⟨#[10]⟩
def pairLine (r : Row) : ByteArray := ⟨#[112, 97, 105, 114]⟩ ++ rowText r ++ ⟨#[10]⟩
def headText (ps : List Pl) (lots : List Int) : ByteArray := ⟨#[98, 97, 108, 108, 111, 116, 115]⟩ ++ rowText [sumPl ps] ++ ⟨#[32, 108, 111, 116, 115, 32]⟩ ++ ballotText lots ++ ⟨#[10]⟩
def midText (ps : List Pl) (N : Nat) (m : Int) (lots : List Int) : ByteArray :=
  if m = 1 then ⟨#[99, 111, 117, 110, 116, 115]⟩ ++ rowText (fCounts (List.replicate N false) ps) ++ ⟨#[10]⟩
  else if m = 2 then catOf roundLine (rRounds ps lots) else catOf pairLine (tabOf N (cnt ps))
def endText (v : Int) : ByteArray := ⟨#[119, 105, 110, 110, 101, 114, 32]⟩ ++ ballotText [v] ++ ⟨#[10]⟩
def conText (ps : List Pl) (n m s : Int) : ByteArray :=
  if conOK ps n m s then headText ps (lotsOf n.toNat s.toNat) ++ midText ps n.toNat m (lotsOf n.toNat s.toNat) ++ endText (cWin ps n m s) else ⟨#[]⟩
theorem conText_yes {ps : List Pl} {n m s : Int} (h : conOK ps n m s = true) : conText ps n m s = headText ps (lotsOf n.toNat s.toNat) ++ midText ps n.toNat m (lotsOf n.toNat s.toNat) ++ endText (cWin ps n m s) := by
  unfold conText
  rw [h, if_pos rfl]
theorem conText_no {ps : List Pl} {n m s : Int} (h : conOK ps n m s = false) : conText ps n m s = ⟨#[]⟩ := by
  unfold conText
  rw [h]
  rfl
theorem outText_nls (o : Int) : nls (outText o) = 0 := by
  unfold outText
  split
  · rw [nls_app, ballotText_nls]; rfl
  · rfl
theorem roundLine_nls (r : Rnd) : nls (roundLine r) = 1 := by
  unfold roundLine
  rw [nls_app, nls_app, nls_app, rowText_nls, outText_nls]
  rfl
theorem pairLine_nls (r : Row) : nls (pairLine r) = 1 := by
  unfold pairLine
  rw [nls_app, nls_app, rowText_nls]
  rfl
theorem headText_nls (ps : List Pl) (lots : List Int) : nls (headText ps lots) = 1 := by
  unfold headText
  rw [nls_app, nls_app, nls_app, nls_app, rowText_nls, ballotText_nls]
  rfl
theorem endText_nls (v : Int) : nls (endText v) = 1 := by
  unfold endText
  rw [nls_app, nls_app, ballotText_nls]
  rfl
/-- The lines of a report. -/
theorem conText_nls {ps : List Pl} {n m s : Int} (h : conOK ps n m s = true) :
    nls (conText ps n m s) = if m = 1 then 3 else if m = 2 then (rRounds ps (lotsOf n.toNat s.toNat)).length + 2 else n.toNat + 2 := by
  rw [conText_yes h, nls_app, nls_app, headText_nls, endText_nls]
  unfold midText
  split
  · rw [nls_app, nls_app, rowText_nls]; rfl
  · split
    · rw [catOf_nls (k := 1) (fun r _ => roundLine_nls r)]; omega
    · rw [catOf_nls (k := 1) (fun r _ => pairLine_nls r), tabOf_len]; omega
theorem conText_ne {ps : List Pl} {n m s : Int} (h : conOK ps n m s = true) : conText ps n m s ≠ ⟨#[]⟩ := fun e => by
  have h1 := conText_nls h
  rw [e] at h1
  have h0 : nls (⟨#[]⟩ : ByteArray) = 0 := rfl
  rw [h0] at h1
  split at h1
  · omega
  · split at h1 <;> omega
theorem rGo_len (ps : List Pl) (lots : List Int) : ∀ (f : Nat) (left : List Bool), (rGo ps lots f left).length ≤ f
  | 0, left => by simp [rGo]
  | f + 1, left => by
    unfold rGo
    split
    · simp
    · have := rGo_len ps lots f
      simp only [List.length_cons]
      exact Nat.succ_le_succ (this _)
theorem outText_size (o : Int) : (outText o).size ≤ 105 := by
  unfold outText
  have h1 := ballotText_size [o] (by simp)
  have h2 : (⟨#[32, 111, 117, 116, 32]⟩ : ByteArray).size = 5 := rfl
  have h3 : (⟨#[]⟩ : ByteArray).size = 0 := rfl
  split
  · rw [ByteArray.size_append]; omega
  · omega
theorem ba_eq {s t : ByteArray} (a b c : ByteArray) (hs : s = a ++ b) (ht : t = a ++ (b ++ c)) : s ++ c = t := by rw [hs, ht, ByteArray.append_assoc]
end Go.Proofs.YtboobimpoddacaaGreatDoor

namespace Go.Proofs.YtboobimpoddacaaGreatDoor
open Go.RowKit
set_option linter.unusedVariables false

/-- The table that the library's Itoa reads. -/
def Tab (w : World) : Prop := Lib.TabIs Tryz.prog w "internal/strconv.uint64pow10" .u64 Lib.pow10Tab
theorem Tab.below {w w' : World} (h : Tab w) (hb : Below w.heap.size w w') : Tab w' := Joins.tab_stays (g := 5) (by kernel_rfl) h hb (Nat.le_refl _)
theorem Tab.grown {w w' : World} (h : Tab w) (hg : w.grownBy w' none) : Tab w' := h.below (gb_below hg)
theorem c_Itoa (z : Nat) (w : World) (ht : Tab w) (hz : z ≤ 1000000) :
    Calls Tryz.prog 39 #[.int .i64 (z : Int)] w fun e w' => e = .returned (.string (dec z)) ∧ w.grownBy w' none := by
  refine (Tryz.strconv_Itoa (z : Int) (by omega) (by omega) w ht).mono ?_
  rintro e w' ⟨rfl, k, os, rfl⟩
  exact ⟨by rw [Lib.itoa_nonneg]; rfl, gb_of_below (Lib.below_grow _ _ (Nat.le_refl _) _ _) _⟩
theorem rowText_step {xs : List Int} {k : Nat} {z : Nat} {t : ByteArray} (hz : xs[k]? = some (z : Int)) (ht : t = rowText (xs.take k)) : t ++ (⟨#[32]⟩ ++ dec z) = rowText (xs.take (k + 1)) := by
  rw [take_succ_of hz, rowText_snoc, ht, Int.toNat_natCast]
theorem add_str (a b t : ByteArray) (h : a ++ b = t) (hs : t.size ≤ 1000000000) (wx : World) : (Op.stringOp .add a b).run Tryz.prog wx = .ok (.string t) wx := by
  rw [← h]
  refine run_string_add_sum wx a b ?_
  rw [← h, ByteArray.size_append] at hs
  omega
def lenOf : Value → Nat := fun v => (intOf v).toNat

set_option maxHeartbeats 1000000 in
theorem c_numbersText (lo : Nat) (A : Option Addr) (n cap : Nat) (xs : List Int) (w : World) (h : Ints w lo A n cap xs) (hb : ∀ z ∈ xs, 0 ≤ z ∧ z ≤ 1000000) (hn : n ≤ 1000000) (ht : Tab w) :
    Calls Tryz.prog 24 #[.slice A n cap] w fun e w' => e = .returned (.string (rowText xs)) ∧ w.grownBy w' none := by
  have hlc := h.le
  have hcm := h.max
  have hxl := Lib.hid h.len
  have Hb := Lib.hid hb
  clear hb
  go_enter Tryz.func24, Tryz.ntmps24
  go_wp2
  go_loopw [3, 8] (fun v i wr => ∃ (k : Nat) (t : ByteArray), k ≤ n ∧ i = .int .i64 k ∧ v = .string t ∧ t.size ≤ 19 * k ∧ w.grownBy wr none ∧ Hid (t = rowText (xs.take k))) (fun _ i _ => n - (intOf i).toNat)
  case atStart => exact ⟨0, _, Nat.zero_le _, rfl, rfl, Nat.le_refl _, gb_refl _ _, Lib.hid rfl⟩
  case round =>
    obtain ⟨k, t, hk, rfl, rfl, hts, hg, hT⟩ := hrel
    by_cases hlt : k < n
    · obtain ⟨b, off, z0, rfl, hz, hcell⟩ := Ints.at_ (Sl.keep0 h hg) hlt
      have hz1 := Hb.out z0 (List.mem_of_getElem? hz.out)
      obtain ⟨z, rfl⟩ : ∃ z : Nat, z0 = (z : Int) := ⟨z0.toNat, by omega⟩
      have hk' : (k : Int) < (n : Int) := by omega
      have hk0 : (0 : Int) ≤ (k : Int) := by omega
      have hzb : z ≤ 1000000 := by omega
      have hds := dec_size (n := z) (by omega)
      obtain ⟨d, hd⟩ : ∃ d, (⟨#[32]⟩ : ByteArray) ++ dec z = d := ⟨_, rfl⟩
      obtain ⟨t', ht'⟩ : ∃ t', t ++ d = t' := ⟨_, rfl⟩
      have hds2 : d.size ≤ 19 := by
        rw [← hd, ByteArray.size_append]
        have h2 : (⟨#[32]⟩ : ByteArray).size = 1 := rfl
        omega
      have hts2 : t'.size ≤ 19 * (k + 1) := by
        rw [← ht', ByteArray.size_append]
        omega
      have hT2 := Lib.hid (rowText_step hz.out hT.out)
      rw [hd, ht'] at hT2
      have hadd1 := add_str ⟨#[32]⟩ (dec z) d hd (by omega)
      have hadd2 := add_str t d t' ht' (by omega)
      clear hd ht' hds hds2 hz1
      go_wp2_with fail
      refine (c_Itoa z _ (ht.grown hg) hzb).mono ?_
      rintro e w1 ⟨rfl, hg1⟩
      go_wp2
      go_roundw
      case rel => exact ⟨k + 1, t', by omega, by go_num, rfl, hts2, gb_trans hg hg1, hT2⟩
      case measure => simp [intOf]; omega
    · obtain rfl : k = n := by omega
      go_wp2
      go_ret
      exact ⟨ret_str (by rw [hT.out, List.take_of_length_le (by rw [hxl.out]; exact Nat.le_refl _)]), hg⟩

set_option maxHeartbeats 1000000 in
theorem c_l42Row (lo : Nat) (A : Option Addr) (n cap : Nat) (xs : List Int) (w : World) (h : Ints w lo A n cap xs) (hb : ∀ z ∈ xs, 0 ≤ z ∧ z ≤ 1000000) (hn : n ≤ 1000000) :
    Calls Tryz.prog 100 #[.slice A n cap] w fun e w' => e = .returned (.string (rowText xs)) ∧ w.grownBy w' none := by
  have hlc := h.le
  have hcm := h.max
  have hxl := Lib.hid h.len
  have Hb := Lib.hid hb
  clear hb
  go_enter Tryz.func100, Tryz.ntmps100
  go_wp2
  go_loopw [3, 4] (fun v i wr => ∃ (k : Nat) (t : ByteArray), k ≤ n ∧ i = .int .i64 k ∧ v = .string t ∧ t.size ≤ 19 * k ∧ w.grownBy wr none ∧ Hid (t = rowText (xs.take k))) (fun _ i _ => n - (intOf i).toNat)
  case atStart => exact ⟨0, _, Nat.zero_le _, rfl, rfl, Nat.le_refl _, gb_refl _ _, Lib.hid rfl⟩
  case round =>
    obtain ⟨k, t, hk, rfl, rfl, hts, hg, hT⟩ := hrel
    by_cases hlt : k < n
    · obtain ⟨b, off, z0, rfl, hz, hcell⟩ := Ints.at_ (Sl.keep0 h hg) hlt
      have hz1 := Hb.out z0 (List.mem_of_getElem? hz.out)
      obtain ⟨z, rfl⟩ : ∃ z : Nat, z0 = (z : Int) := ⟨z0.toNat, by omega⟩
      have hk' : (k : Int) < (n : Int) := by omega
      have hk0 : (0 : Int) ≤ (k : Int) := by omega
      have hds := dec_size (n := z) (by omega)
      have h2 : (⟨#[32]⟩ : ByteArray).size = 1 := rfl
      obtain ⟨d, hd⟩ : ∃ d, t ++ (⟨#[32]⟩ : ByteArray) = d := ⟨_, rfl⟩
      obtain ⟨t', ht'⟩ : ∃ t', d ++ dec z = t' := ⟨_, rfl⟩
      have hds2 : d.size ≤ 19 * k + 1 := by
        rw [← hd, ByteArray.size_append]
        omega
      have hts2 : t'.size ≤ 19 * (k + 1) := by
        rw [← ht', ByteArray.size_append]
        omega
      have hT2 := Lib.hid (rowText_step hz.out hT.out)
      rw [← ByteArray.append_assoc, hd, ht'] at hT2
      have hadd1 := add_str t ⟨#[32]⟩ d hd (by omega)
      have hadd2 := add_str d (dec z) t' ht' (by omega)
      have hcall := Lib.hid (fun x => c_l6Dec z (by omega) x)
      clear hd ht' hds hds2 hz1 h2
      go_wp2_with fail
      refine (hcall.out _).mono ?_
      rintro e w1 ⟨rfl, hg1⟩
      go_wp2
      go_roundw
      case rel => exact ⟨k + 1, t', by omega, by go_num, rfl, hts2, gb_trans hg hg1, hT2⟩
      case measure => simp [intOf]; omega
    · obtain rfl : k = n := by omega
      go_wp2
      go_ret
      exact ⟨ret_str (by rw [hT.out, List.take_of_length_le (by rw [hxl.out]; exact Nat.le_refl _)]), hg⟩

set_option maxHeartbeats 400000 in
theorem c_l3Total (lo : Nat) (A : Option Addr) (n cap : Nat) (ps : List Pl) (w : World) (h : Piles w lo A n cap ps) (hb : ∀ p ∈ ps, 0 ≤ p.2 ∧ p.2 ≤ 99) (hn : n ≤ 2000000) :
    Calls Tryz.prog 30 #[.slice A n cap] w fun e w' => e = .returned (.int .i64 (sumPl ps)) ∧ w = w' := by
  have hlc := h.1
  have hcm := Sl.max h
  have hxl := Lib.hid h.len
  have Hb := Lib.hid hb
  clear hb
  go_enter Tryz.func30, Tryz.ntmps30
  go_wp2
  go_loop [3, 4] (fun v i => ∃ (k : Nat) (F : Int), k ≤ n ∧ i = .int .i64 k ∧ v = .int .i64 F ∧ 0 ≤ F ∧ F ≤ 99 * k ∧ Hid (F = sumPl (ps.take k))) (fun _ i => n - (intOf i).toNat)
  case atStart => exact ⟨0, 0, Nat.zero_le _, rfl, rfl, by omega, by omega, Lib.hid rfl⟩
  case round =>
    obtain ⟨k, F, hk, rfl, rfl, hF0, hF1, hF⟩ := hrel
    by_cases hlt : k < n
    · obtain ⟨b, off, ⟨s, q⟩, rfl, _, _, hz, p0, p1⟩ := Piles.at_ h hlt
      have hk' : (k : Int) < (n : Int) := by omega
      have hk0 : (0 : Int) ≤ (k : Int) := by omega
      have hq : 0 ≤ q ∧ q ≤ 99 := Hb.out _ (List.mem_of_getElem? hz.out)
      go_wp2
      go_round
      case rel => exact ⟨k + 1, F + q, by omega, by go_num, rfl, by omega, by omega, Lib.hid (by rw [take_succ_of hz.out, sumPl_snoc, hF.out])⟩
      case measure => simp [intOf]; omega
    · obtain rfl : k = n := by omega
      go_wp2
      go_ret
      exact ⟨ret_int (by rw [hF.out, List.take_of_length_le (by rw [hxl.out]; exact Nat.le_refl _)]), rfl⟩

theorem u8Info : (Tryz.prog.info? 5).map (fun i => (i.zero, i.size, i.bytes)) = some (some (.int .u8 0), 1, 1) := by kernel_rfl
theorem u8El : Elem Tryz.prog 22 5 1 1 (.int .u8 0) := ⟨Tryz.underlying22, info_parts u8Info, rfl, by omega⟩
theorem letter_nat {z : Int} (h0 : 0 ≤ z) (h4 : z ≤ 4) : (((97 + z).toNat.toUInt8).toNat : Int) = 97 + z := by
  obtain ⟨k, rfl⟩ := Int.eq_ofNat_of_zero_le h0
  have hk : k ≤ 4 := by omega
  match k, hk with
  | 0, _ => rfl
  | 1, _ => rfl
  | 2, _ => rfl
  | 3, _ => rfl
  | 4, _ => rfl

set_option maxHeartbeats 1000000 in
theorem c_impl_BallotText (lo : Nat) (A : Option Addr) (n cap : Nat) (xs : List Int) (w : World) (h : Ints w lo A n cap xs) (hn : n ≤ 1000) :
    Calls Tryz.prog 55 #[.slice A n cap] w fun e w' => e = .returned (.string (ballotText xs)) ∧ w.grownBy w' none := by
  have hlc := h.le
  have hcm := h.max
  have hxl := Lib.hid h.len
  by_cases hok : ballotOK xs 5 = true
  · have hall := Lib.hid ((ballotOK_iff xs 5).1 hok).2.2
    have Hok := Lib.hid hok
    clear hok
    go_enter Tryz.func55, Tryz.ntmps55
    go_wp2_with fail
    refine (c_impl_BallotValid lo A n cap xs _ _ h).mono ?_
    rintro e w1 ⟨rfl, rfl⟩
    rw [Hok.out]
    obtain ⟨w0, hmk, hg0, hown0⟩ := mk_row u8El rfl n hn (by omega) w
    go_wp2
    clear hmk
    go_loopw [14] (fun i wr => ∃ (k : Nat) (us : List Value), k ≤ n ∧ i = .int .i64 k ∧ w.grownBy wr none ∧ wr.ownsRow w.heap.size 5 1 (.slice (some ⟨w.heap.size, 0, none⟩) n n) n us ∧ Hid (∀ j z, j < k → xs[j]? = some z → us[j]? = some (.int .u8 (97 + z)))) (fun i _ => n - (intOf i).toNat)
    case atStart => exact ⟨0, _, Nat.zero_le _, rfl, hg0, hown0, Lib.hid (fun j z hj => by omega)⟩
    case round =>
      obtain ⟨k, us, hk, rfl, hg, hown, hus⟩ := hrel
      by_cases hlt : k < n
      · obtain ⟨b, off, z, rfl, hz, hcell⟩ := Ints.at_ (Sl.keep0 h hg) hlt
        obtain ⟨h0, h5⟩ := hall.out z (List.mem_of_getElem? hz.out)
        have hk' : (k : Int) < (n : Int) := by omega
        have hk0 : (0 : Int) ≤ (k : Int) := by omega
        have hw1 : IntKind.i64.wrap (97 + z) = 97 + z := IntWalk.i64_in _ (by omega)
        have hw2 : IntKind.u8.wrap (97 + z) = 97 + z := by rw [IntKind.wrap_u8]; omega
        obtain ⟨u, hc⟩ := own_cell hown hlt
        have hfz := hown.frozenAt k
        obtain ⟨hst, hgs⟩ := hown.stored k (.int .u8 (97 + z))
        have hul := hown.1
        go_wp2
        go_roundw
        case rel =>
          refine ⟨k + 1, _, by omega, by go_num, gb_setCell hg (.inr (Nat.le_refl _)) _, hst, Lib.hid (fun j y hj hy => ?_)⟩
          rw [List.getElem?_set]
          by_cases hjk : k = j
          · subst hjk
            rw [if_pos rfl, if_pos (by omega)]
            rw [hz.out] at hy
            injection hy with hy
            rw [hy]
          · rw [if_neg hjk]
            exact hus.out j y (by omega) hy
        case measure => simp [intOf]; omega
      · obtain rfl : k = n := by omega
        have hll : (letters xs).length = k := by unfold letters; rw [List.length_map]; exact hxl.out
        have hcv := run_convert_bytes_back (P := Tryz.prog) wr 22 9 5 ⟨w.heap.size, 0, none⟩ k (letters xs) Tryz.underlying22 Tryz.underlying5 Tryz.underlying9 (fun j hj => by
          rw [hll] at hj
          have hxj : j < xs.length := by rw [hxl.out]; exact hj
          have hz : xs[j]? = some xs[j] := List.getElem?_eq_getElem hxj
          have hb := hall.out _ (List.mem_of_getElem? hz)
          have hc := hown.cellAt j (by omega)
          rw [hus.out j _ (by omega) hz] at hc
          rw [add_off, Nat.zero_add, hc]
          simp only [letters, List.getElem_map]
          rw [letter_nat hb.1 (by omega)])
        rw [hll] at hcv
        go_wp2
        go_ret
        exact ⟨ret_str (by rw [ballotText, Hok.out]; rfl), hg⟩
  · have hok' : ballotOK xs 5 = false := by simpa using hok
    have Hok := Lib.hid hok'
    clear hok hok'
    go_enter Tryz.func55, Tryz.ntmps55
    go_wp2_with fail
    refine (c_impl_BallotValid lo A n cap xs _ _ h).mono ?_
    rintro e w1 ⟨rfl, rfl⟩
    rw [Hok.out]
    go_wp2
    go_ret
    exact ⟨ret_str (by rw [ballotText, Hok.out]; rfl), gb_refl _ _⟩
end Go.Proofs.YtboobimpoddacaaGreatDoor

namespace Go.Proofs.YtboobimpoddacaaGreatDoor
open Go.RowKit
set_option linter.unusedVariables false

theorem ba_empty (a : ByteArray) : a ++ (⟨#[]⟩ : ByteArray) = a := ByteArray.append_empty
theorem line_no {t : ByteArray} {r : Rnd} (h : ¬ 0 ≤ r.2) : t ++ ⟨#[114, 111, 117, 110, 100]⟩ ++ rowText r.1 ++ ⟨#[10]⟩ = t ++ roundLine r := by
  unfold roundLine outText
  rw [if_neg h, ba_empty]
  simp only [ByteArray.append_assoc]
theorem line_yes {t : ByteArray} {r : Rnd} (h : 0 ≤ r.2) : t ++ ⟨#[114, 111, 117, 110, 100]⟩ ++ rowText r.1 ++ ⟨#[32, 111, 117, 116, 32]⟩ ++ ballotText [r.2] ++ ⟨#[10]⟩ = t ++ roundLine r := by
  unfold roundLine outText
  rw [if_pos h]
  simp only [ByteArray.append_assoc]
theorem rGo_mem {ps : List Pl} {lots : List Int} : ∀ (f : Nat) (left : List Bool), ∀ r ∈ rGo ps lots f left, ∃ l' : List Bool, r.1 = fCounts l' ps ∧ l'.length = left.length
  | 0, left, r, h => by simp [rGo] at h
  | f + 1, left, r, h => by
    unfold rGo at h
    split at h
    · rw [List.mem_singleton] at h
      subst h
      exact ⟨left, rfl, rfl⟩
    · rw [List.mem_cons] at h
      rcases h with h | h
      · subst h
        exact ⟨left, rfl, rfl⟩
      · obtain ⟨l', h1, h2⟩ := rGo_mem f _ r h
        exact ⟨l', h1, by rw [h2, List.length_set]⟩
theorem rounds_mem {ps : List Pl} {lots : List Int} {N : Nat} (hfit : fitOK ps (N : Int) = true) (hl : lots.length = N) : ∀ r ∈ rRounds ps lots, r.1.length = N ∧ ∀ z ∈ r.1, 0 ≤ z ∧ z ≤ 1000000 := fun r hr => by
  obtain ⟨l', h1, h2⟩ := rGo_mem _ _ r hr
  rw [h1]
  refine ⟨by rw [fCounts_len, h2, List.length_replicate, hl], fun z hz => ?_⟩
  have := fit_bounds hfit l' z hz
  omega
theorem rounds_len {ps : List Pl} {lots : List Int} {N : Nat} (hl : lots.length = N) : (rRounds ps lots).length ≤ N := by
  have := rGo_len ps lots lots.length (List.replicate lots.length false)
  unfold rRounds
  omega
theorem ints_one (w : World) (z : Int) : Ints (w.alloc (.cells #[.int .i64 z] 3)) w.heap.size (some ⟨w.heap.size, 0, none⟩) 1 1 [z] :=
  Sl.own (own_of_blk (lo := w.heap.size) (size := 1) (n := 1) (Blk.new w 3 #[.int .i64 z]) rfl (by omega) (Nat.le_refl _))
theorem cnt_row {ps : List Pl} {N : Nat} (hfit : fitOK ps (N : Int) = true) (x : Nat) : ∀ z ∈ tabRow N (cnt ps x), 0 ≤ z ∧ z ≤ 1000000 := fun z hz => by
  obtain ⟨h1, h2, _⟩ := fit_many hfit
  obtain ⟨y, _, rfl⟩ := List.mem_map.1 hz
  have := cnt_bound x y ps h1
  omega

set_option maxHeartbeats 4000000 in
set_option maxRecDepth 100000 in
theorem c_l42Lines (lo lo' : Nat) (A0 B0 : Option Addr) (np cap N cap' : Nat) (ps : List Pl) (m : Int) (lots : List Int) (w : World) (h : Piles w lo A0 np cap ps) (h' : Ints w lo' B0 N cap' lots) (hs : ∀ p ∈ ps, p.1.size ≤ 2000000) (hfit : fitOK ps N = true) (hp : lots.Perm (iota N)) :
    Calls Tryz.prog 70 #[.slice A0 np cap, .int .i64 N, .int .i64 m, .slice B0 N cap'] w fun e w' => e = .returned (.string (midText ps N m lots)) ∧ w.grownBy w' none := by
  have Hs := Lib.hid hs
  have Hfit := Lib.hid hfit
  have Hp := Lib.hid hp
  have hll := h'.len
  have Hll := Lib.hid hll
  have hN5 : 1 ≤ N ∧ N ≤ 5 := by have := (fit_many hfit).2.2; omega
  obtain ⟨hN1, hN5⟩ := hN5
  clear hs hp
  by_cases h1 : m = 1
  · subst h1
    have hbd := Lib.hid (show ∀ z ∈ fCounts (List.replicate N false) ps, 0 ≤ z ∧ z ≤ 1000000 from fun z hz => by have := fit_bounds hfit (List.replicate N false) z hz; omega)
    have hcl : Hid ((fCounts (List.replicate N false) ps).length = N) := Lib.hid (by rw [fCounts_len]; simp)
    have hsz := rowText_size hbd.out
    rw [hcl.out] at hsz
    obtain ⟨R, hR⟩ : ∃ R, rowText (fCounts (List.replicate N false) ps) = R := ⟨_, rfl⟩
    rw [hR] at hsz
    obtain ⟨T1, hT1⟩ : ∃ T, (⟨#[99, 111, 117, 110, 116, 115]⟩ : ByteArray) ++ R = T := ⟨_, rfl⟩
    obtain ⟨T2, hT2⟩ : ∃ T, T1 ++ (⟨#[10]⟩ : ByteArray) = T := ⟨_, rfl⟩
    have l1 : (⟨#[99, 111, 117, 110, 116, 115]⟩ : ByteArray).size = 6 := rfl
    have l2 : (⟨#[10]⟩ : ByteArray).size = 1 := rfl
    have z1 : T1.size = 6 + R.size := by rw [← hT1, ByteArray.size_append, l1]
    have z2 : T2.size = T1.size + 1 := by rw [← hT2, ByteArray.size_append, l2]
    have a1 := add_str _ _ _ hT1 (by omega)
    have a2 := add_str _ _ _ hT2 (by omega)
    have hfin : Hid (T2 = midText ps N 1 lots) := Lib.hid (by unfold midText; rw [if_pos rfl, hR, hT1, hT2])
    have HR := Lib.hid hR
    clear hT1 hT2 l1 l2 z1 z2 hsz hR hll hfit
    obtain ⟨w0, hmk, hG0, hown0⟩ := mk_bools N (by omega) w
    go_enter Tryz.func70, Tryz.ntmps70
    go_wp2_with fail
    refine (c_l11Counts lo w.heap.size A0 _ np cap N N ps (List.replicate N false) w0 (h.keep0 hG0) (Sl.own hown0) Hs.out Hfit.out).mono ?_
    rintro e w2 ⟨D, rfl, hg2, hD⟩
    have hG2 := gb_trans hG0 hg2
    have hI2 : Ints w2 w0.heap.size D N N (fCounts (List.replicate N false) ps) := Sl.own hD
    clear hmk hown0 hD hg2
    go_wp2_with fail
    refine (c_l42Row _ D N N _ _ hI2 hbd.out (by omega)).mono ?_
    rintro e w3 ⟨rfl, hg3⟩
    rw [HR.out]
    go_wp2
    go_ret
    exact ⟨ret_str hfin.out, gb_trans hG2 hg3⟩
  by_cases h2 : m = 2
  · subst h2
    have hrm := Lib.hid (rounds_mem hfit hll)
    have hrl := rounds_len (ps := ps) hll
    clear hll hfit
    go_enter Tryz.func70, Tryz.ntmps70
    go_wp2_with fail
    refine (c_l12Rounds lo lo' A0 B0 np cap N cap' ps lots _ h h' Hs.out Hfit.out Hp.out).mono ?_
    rintro e w1 ⟨A, n, c, hd, rfl, hg1, hO⟩
    have hn5 : n ≤ 5 := by have := hO.xlen; omega
    have hrx := Lib.hid hO.xlen
    obtain ⟨rs, hrs⟩ : ∃ r, rRounds ps lots = r := ⟨_, rfl⟩
    have Hrs := Lib.hid hrs
    rw [hrs] at hO hrm hrl hrx
    clear hrs
    go_wp2
    go_loopw [9, 11] (fun v i wr => ∃ (k : Nat) (t : ByteArray), k ≤ n ∧ i = .int .i64 k ∧ v = .string t ∧ t.size ≤ 1000 * k ∧ w1.grownBy wr none ∧ Hid (t = catOf roundLine (rs.take k))) (fun _ i _ => n - (intOf i).toNat)
    case atStart => exact ⟨0, _, Nat.zero_le _, rfl, rfl, Nat.le_refl _, gb_refl _ _, Lib.hid rfl⟩
    case round =>
      obtain ⟨k, t, hk, rfl, rfl, hts, hg, hT⟩ := hrel
      by_cases hlt : k < n
      · obtain ⟨b, ⟨cs, o⟩, d, rfl, hr, hI, p0, p1⟩ := (hO.keep hg).at_ hlt
        have hrb := hrm.out _ (List.mem_of_getElem? hr.out)
        have hk' : (k : Int) < (n : Int) := by omega
        have hk0 : (0 : Int) ≤ (k : Int) := by omega
        have hcl : cs.length = N := hrb.1
        have hbd := Lib.hid hrb.2
        have hsz := rowText_size hrb.2
        simp only at hI p0 p1 hsz hbd
        rw [hcl] at hI p0 hsz
        obtain ⟨R, hR⟩ : ∃ R, rowText cs = R := ⟨_, rfl⟩
        have HR := Lib.hid hR
        rw [hR] at hsz
        obtain ⟨T1, hT1⟩ : ∃ T, t ++ (⟨#[114, 111, 117, 110, 100]⟩ : ByteArray) = T := ⟨_, rfl⟩
        obtain ⟨T2, hT2⟩ : ∃ T, T1 ++ R = T := ⟨_, rfl⟩
        have l1 : (⟨#[114, 111, 117, 110, 100]⟩ : ByteArray).size = 5 := rfl
        have l2 : (⟨#[10]⟩ : ByteArray).size = 1 := rfl
        have z1 : T1.size = t.size + 5 := by rw [← hT1, ByteArray.size_append, l1]
        have z2 : T2.size = T1.size + R.size := by rw [← hT2, ByteArray.size_append]
        have a1 := add_str _ _ _ hT1 (by omega)
        have a2 := add_str _ _ _ hT2 (by omega)
        by_cases ho : 0 ≤ o
        · have l3 : (⟨#[32, 111, 117, 116, 32]⟩ : ByteArray).size = 5 := rfl
          have l4 := ballotText_size [o] (by simp)
          obtain ⟨X, hX⟩ : ∃ X, ballotText [o] = X := ⟨_, rfl⟩
          rw [hX] at l4
          obtain ⟨T3, hT3⟩ : ∃ T, T2 ++ (⟨#[32, 111, 117, 116, 32]⟩ : ByteArray) = T := ⟨_, rfl⟩
          obtain ⟨T4, hT4⟩ : ∃ T, T3 ++ X = T := ⟨_, rfl⟩
          obtain ⟨T5, hT5⟩ : ∃ T, T4 ++ (⟨#[10]⟩ : ByteArray) = T := ⟨_, rfl⟩
          have z3 : T3.size = T2.size + 5 := by rw [← hT3, ByteArray.size_append, l3]
          have z4 : T4.size = T3.size + X.size := by rw [← hT4, ByteArray.size_append]
          have z5 : T5.size = T4.size + 1 := by rw [← hT5, ByteArray.size_append, l2]
          have a3 := add_str _ _ _ hT3 (by omega)
          have a4 := add_str _ _ _ hT4 (by omega)
          have a5 := add_str _ _ _ hT5 (by omega)
          have hts5 : T5.size ≤ 1000 * (k + 1) := by omega
          have hfin : Hid (T5 = catOf roundLine (rs.take (k + 1))) := Lib.hid (by
            rw [take_succ_of hr.out, catOf_snoc, ← line_yes ho, ← hT5, ← hT4, ← hT3, ← hT2, ← hT1, hR, hX, hT.out])
          have HX := Lib.hid hX
          clear hT1 hT2 hT3 hT4 hT5 l1 l2 l3 l4 z1 z2 z3 z4 z5 hsz hR hX hrb hcl
          go_wp2_with fail
          refine (c_l42Row _ _ N _ _ _ hI hbd.out (by omega)).mono ?_
          rintro e w3 ⟨rfl, hg3⟩
          rw [HR.out]
          have hG3 := gb_trans hg hg3
          have p0' := gb_cell hg3 p0 (by simp)
          have p1' := gb_cell hg3 p1 (by simp)
          go_wp2_with fail
          refine (c_spec_BallotText _ _ 1 1 [o] _ (ints_one _ o) (by omega)).mono ?_
          rintro e w4 ⟨rfl, d4, rfl⟩
          rw [HX.out]
          go_wp2
          go_roundw
          case rel => exact ⟨k + 1, T5, by omega, by go_num, rfl, hts5, gb_drewN (gb_alloc hG3 _) _, hfin⟩
          case measure => simp [intOf]; omega
        · obtain ⟨T5, hT5⟩ : ∃ T, T2 ++ (⟨#[10]⟩ : ByteArray) = T := ⟨_, rfl⟩
          have z5 : T5.size = T2.size + 1 := by rw [← hT5, ByteArray.size_append, l2]
          have a5 := add_str _ _ _ hT5 (by omega)
          have hts5 : T5.size ≤ 1000 * (k + 1) := by omega
          have hfin : Hid (T5 = catOf roundLine (rs.take (k + 1))) := Lib.hid (by
            rw [take_succ_of hr.out, catOf_snoc, ← line_no ho, ← hT5, ← hT2, ← hT1, hR, hT.out])
          clear hT1 hT2 hT5 l1 l2 z1 z2 z5 hsz hR hrb hcl
          go_wp2_with fail
          refine (c_l42Row _ _ N _ _ _ hI hbd.out (by omega)).mono ?_
          rintro e w3 ⟨rfl, hg3⟩
          rw [HR.out]
          have hG3 := gb_trans hg hg3
          have p1' := gb_cell hg3 p1 (by simp)
          go_wp2
          go_roundw
          case rel => exact ⟨k + 1, T5, by omega, by go_num, rfl, hts5, hG3, hfin⟩
          case measure => simp [intOf]; omega
      · obtain rfl : k = n := by omega
        go_wp2
        go_ret
        exact ⟨ret_str (by rw [hT.out, List.take_of_length_le (by rw [hrx.out]; exact Nat.le_refl _), midText, if_neg (by omega), if_pos rfl, Hrs.out]), gb_trans hg1 hg⟩
  have hmt : Hid (midText ps N m lots = catOf pairLine (tabOf N (cnt ps))) := Lib.hid (by unfold midText; rw [if_neg h1, if_neg h2])
  have m1 : (m == 1) = false := by simpa using h1
  have m2 : (m == 2) = false := by simpa using h2
  have hcr := Lib.hid (cnt_row hfit)
  clear h1 h2 hll hfit
  go_enter Tryz.func70, Tryz.ntmps70
  go_wp2_with fail
  refine (c_l13Counts lo A0 np cap N ps _ h Hs.out Hfit.out).mono ?_
  rintro e w1 ⟨D, c, rfl, hg1, hT1⟩
  have hTle := hT1.le
  have hTm := hT1.max
  go_wp2
  go_loopw [9, 13] (fun v i wr => ∃ (k : Nat) (t : ByteArray), k ≤ N ∧ i = .int .i64 k ∧ v = .string t ∧ t.size ≤ 1000 * k ∧ w1.grownBy wr none ∧ Hid (t = catOf pairLine ((tabOf N (cnt ps)).take k))) (fun _ i _ => N - (intOf i).toNat)
  case atStart => exact ⟨0, _, Nat.zero_le _, rfl, rfl, Nat.le_refl _, gb_refl _ _, Lib.hid rfl⟩
  case round =>
    obtain ⟨k, t, hk, rfl, rfl, hts, hg, hT⟩ := hrel
    by_cases hlt : k < N
    · obtain ⟨b, off, ys, A', c', rfl, hr, hI, p0⟩ := (hT1.keep0 hg).at_ hlt
      have hys : ys = tabRow N (cnt ps k) := by have := hr.out; rw [tabOf_at _ hlt] at this; injection this with this; exact this.symm
      have hbd := Lib.hid (show ∀ z ∈ ys, 0 ≤ z ∧ z ≤ 1000000 from by rw [hys]; exact hcr.out k)
      have hcl : ys.length = N := by rw [hys, tabRow_len]
      have hk' : (k : Int) < (N : Int) := by omega
      have hk0 : (0 : Int) ≤ (k : Int) := by omega
      have hsz := rowText_size hbd.out
      rw [hcl] at hI p0 hsz
      clear hys
      obtain ⟨R, hR⟩ : ∃ R, rowText ys = R := ⟨_, rfl⟩
      have HR := Lib.hid hR
      rw [hR] at hsz
      obtain ⟨T1, hT1'⟩ : ∃ T, t ++ (⟨#[112, 97, 105, 114]⟩ : ByteArray) = T := ⟨_, rfl⟩
      obtain ⟨T2, hT2⟩ : ∃ T, T1 ++ R = T := ⟨_, rfl⟩
      obtain ⟨T3, hT3⟩ : ∃ T, T2 ++ (⟨#[10]⟩ : ByteArray) = T := ⟨_, rfl⟩
      have l1 : (⟨#[112, 97, 105, 114]⟩ : ByteArray).size = 4 := rfl
      have l2 : (⟨#[10]⟩ : ByteArray).size = 1 := rfl
      have z1 : T1.size = t.size + 4 := by rw [← hT1', ByteArray.size_append, l1]
      have z2 : T2.size = T1.size + R.size := by rw [← hT2, ByteArray.size_append]
      have z3 : T3.size = T2.size + 1 := by rw [← hT3, ByteArray.size_append, l2]
      have a1 := add_str _ _ _ hT1' (by omega)
      have a2 := add_str _ _ _ hT2 (by omega)
      have a3 := add_str _ _ _ hT3 (by omega)
      have hts3 : T3.size ≤ 1000 * (k + 1) := by omega
      have hfin : Hid (T3 = catOf pairLine ((tabOf N (cnt ps)).take (k + 1))) := Lib.hid (by
        rw [take_succ_of hr.out, catOf_snoc, ← hT3, ← hT2, ← hT1', pairLine, hR, hT.out]
        simp only [ByteArray.append_assoc])
      clear hT1' hT2 hT3 l1 l2 z1 z2 z3 hsz hR hcl
      go_wp2_with fail
      refine (c_l42Row _ _ N _ _ _ hI hbd.out (by omega)).mono ?_
      rintro e w3 ⟨rfl, hg3⟩
      rw [HR.out]
      go_wp2
      go_roundw
      case rel => exact ⟨k + 1, T3, by omega, by go_num, rfl, hts3, gb_trans hg hg3, hfin⟩
      case measure => simp [intOf]; omega
    · obtain rfl : k = N := by omega
      go_wp2
      go_ret
      exact ⟨ret_str (by rw [hT.out, List.take_of_length_le (by rw [tabOf_len]; exact Nat.le_refl _), hmt.out]), gb_trans hg1 hg⟩
end Go.Proofs.YtboobimpoddacaaGreatDoor

namespace Go.Proofs.YtboobimpoddacaaGreatDoor
open Go.RowKit
set_option linter.unusedVariables false

theorem midText_size {ps : List Pl} {N : Nat} {lots : List Int} (m : Int) (hfit : fitOK ps (N : Int) = true) (hl : lots.length = N) : (midText ps N m lots).size ≤ 5000 := by
  have hN5 : N ≤ 5 := by have := (fit_many hfit).2.2; omega
  unfold midText
  split
  · have h1 := rowText_size (show ∀ z ∈ fCounts (List.replicate N false) ps, 0 ≤ z ∧ z ≤ 1000000 from fun z hz => by have := fit_bounds hfit (List.replicate N false) z hz; omega)
    rw [fCounts_len, List.length_replicate] at h1
    have l1 : (⟨#[99, 111, 117, 110, 116, 115]⟩ : ByteArray).size = 6 := rfl
    have l2 : (⟨#[10]⟩ : ByteArray).size = 1 := rfl
    rw [ByteArray.size_append, ByteArray.size_append]
    omega
  · split
    · have h1 := catOf_size (f := roundLine) (c := 211) (xs := rRounds ps lots) (fun r hr => by
        obtain ⟨h2, h3⟩ := rounds_mem hfit hl r hr
        have h4 := rowText_size h3
        have h5 := outText_size r.2
        have l1 : (⟨#[114, 111, 117, 110, 100]⟩ : ByteArray).size = 5 := rfl
        have l2 : (⟨#[10]⟩ : ByteArray).size = 1 := rfl
        unfold roundLine
        rw [ByteArray.size_append, ByteArray.size_append, ByteArray.size_append]
        omega)
      have := rounds_len (ps := ps) hl
      omega
    · have h1 := catOf_size (f := pairLine) (c := 211) (xs := tabOf N (cnt ps)) (fun r hr => by
        obtain ⟨x, _, rfl⟩ := List.mem_map.1 hr
        have h4 := rowText_size (cnt_row hfit x)
        rw [tabRow_len] at h4
        have l1 : (⟨#[112, 97, 105, 114]⟩ : ByteArray).size = 4 := rfl
        have l2 : (⟨#[10]⟩ : ByteArray).size = 1 := rfl
        unfold pairLine
        rw [ByteArray.size_append, ByteArray.size_append]
        omega)
      rw [tabOf_len] at h1
      omega
theorem head_eq (ps : List Pl) (lots : List Int) : headText ps lots = ⟨#[98, 97, 108, 108, 111, 116, 115, 32]⟩ ++ dec (sumPl ps).toNat ++ ⟨#[32, 108, 111, 116, 115, 32]⟩ ++ ballotText lots ++ ⟨#[10]⟩ := by
  have e : (⟨#[98, 97, 108, 108, 111, 116, 115]⟩ : ByteArray) ++ ⟨#[32]⟩ = ⟨#[98, 97, 108, 108, 111, 116, 115, 32]⟩ := ByteArray.mk_append_mk [98, 97, 108, 108, 111, 116, 115] [32]
  unfold headText
  rw [rowText_one, ← e]
  simp only [ByteArray.append_assoc]
theorem sum_bounds {ps : List Pl} {N : Int} (h : fitOK ps N = true) : 0 ≤ sumPl ps ∧ sumPl ps ≤ 1188 := by
  obtain ⟨h1, h2, _⟩ := fit_many h
  have key : ∀ ps : List Pl, (∀ p ∈ ps, 0 ≤ p.2 ∧ p.2 ≤ 99) → 0 ≤ sumPl ps ∧ sumPl ps ≤ 99 * (ps.length : Int) := by
    intro ps
    induction ps with
    | nil => intro _; simp [sumPl]
    | cons p ps ih =>
      intro h
      have h1 := ih (fun x hx => h x (List.mem_cons_of_mem _ hx))
      have h2 := h p (by simp)
      have h3 : sumPl (p :: ps) = p.2 + sumPl ps := by simp [sumPl]
      rw [h3, List.length_cons]
      omega
  have := key ps h1
  omega

theorem headText_size (ps : List Pl) (lots : List Int) (h : 0 ≤ sumPl ps ∧ sumPl ps ≤ 1188) (hl : lots.length ≤ 10) : (headText ps lots).size ≤ 200 := by
  have h1 := rowText_size (xs := [sumPl ps]) (fun z hz => by rw [List.mem_singleton] at hz; omega)
  have h2 := ballotText_size lots hl
  have l1 : (⟨#[98, 97, 108, 108, 111, 116, 115]⟩ : ByteArray).size = 7 := rfl
  have l2 : (⟨#[32, 108, 111, 116, 115, 32]⟩ : ByteArray).size = 6 := rfl
  have l3 : (⟨#[10]⟩ : ByteArray).size = 1 := rfl
  have l5 : [sumPl ps].length = 1 := rfl
  unfold headText
  rw [ByteArray.size_append, ByteArray.size_append, ByteArray.size_append, ByteArray.size_append]
  omega

set_option maxHeartbeats 4000000 in
set_option maxRecDepth 100000 in
theorem c_spec_ContestText (lo : Nat) (A0 : Option Addr) (np cap : Nat) (ps : List Pl) (n m s : Int) (w : World) (h : Piles w lo A0 np cap ps) (hs : ∀ p ∈ ps, p.1.size ≤ 2000000) :
    Calls Tryz.prog 44 #[.slice A0 np cap, .int .i64 n, .int .i64 m, .int .i64 s] w fun e w' => e = .returned (.string (conText ps n m s)) ∧ w.grownBy w' none := by
  have Hs := Lib.hid hs
  have hnp := h.len
  clear hs
  by_cases hok : conOK ps n m s = true
  · have hh := conOK_iff.1 hok
    have hN := (fit_many hh.1).2.2
    obtain ⟨N, rfl⟩ : ∃ N : Nat, n = (N : Int) := ⟨n.toNat, by omega⟩
    obtain ⟨S, rfl⟩ : ∃ S : Nat, s = (S : Int) := ⟨s.toNat, by omega⟩
    have hN1 : 1 ≤ N := by omega
    have hN5 : N ≤ 5 := by omega
    have hS9 : S ≤ 999 := by omega
    have hwe := conOK_yes hh.1 hh.2.1 hS9
    have hL : lotsOK (N : Int) (S : Int) = true := (lotsOK_iff _ _).2 ⟨by omega, by omega⟩
    have hres : lotsRes (N : Int) (S : Int) = lotsOf N S := by unfold lotsRes; rw [hL, if_pos rfl, Int.toNat_natCast, Int.toNat_natCast]
    have hcl : Hid (∀ x : World, _) := Lib.hid (fun x => c_spec_LotsOf (N : Int) (S : Int) x)
    rw [hL, hres] at hcl
    have Hp := Lib.hid (lotsOf_perm N S)
    have hll := lotsOf_len N S
    have Hll := Lib.hid hll
    have hct := conText_yes hok
    rw [Int.toNat_natCast, Int.toNat_natCast, hwe, head_eq] at hct
    have hms := midText_size m hh.1 hll
    have hcw := Lib.hid (fun x hx => c_l42Winner lo A0 np cap N S ps m x hx Hs.out hh.1 hS9)
    obtain ⟨lots, hlots⟩ : ∃ l, lotsOf N S = l := ⟨_, rfl⟩
    rw [hlots] at hcl Hp Hll hct hms hcw
    obtain ⟨V, hV⟩ : ∃ V, winM ps N m lots = V := ⟨_, rfl⟩
    rw [hV] at hct hcw
    have hsum := sum_bounds hh.1
    obtain ⟨Z, hZ⟩ : ∃ Z : Nat, sumPl ps = (Z : Int) := ⟨(sumPl ps).toNat, by omega⟩
    rw [hZ] at hct hsum
    rw [Int.toNat_natCast] at hct
    have hds := dec_size (n := Z) (by omega)
    have hcd := Lib.hid (fun x => c_l6Dec Z (by omega) x)
    obtain ⟨D, hD⟩ : ∃ D, dec Z = D := ⟨_, rfl⟩
    rw [hD] at hct hds hcd
    have hbs := ballotText_size lots (by rw [Hll.out]; omega)
    obtain ⟨X, hX⟩ : ∃ X, ballotText lots = X := ⟨_, rfl⟩
    have HX := Lib.hid hX
    rw [hX] at hct hbs
    have hbv := ballotText_size [V] (by simp)
    obtain ⟨Y, hY⟩ : ∃ Y, ballotText [V] = Y := ⟨_, rfl⟩
    have HY := Lib.hid hY
    unfold endText at hct
    rw [hY] at hct hbv
    obtain ⟨M, hM⟩ : ∃ M, midText ps N m lots = M := ⟨_, rfl⟩
    have HM := Lib.hid hM
    rw [hM] at hct hms
    have HZ := Lib.hid hZ
    have Hfit := Lib.hid hh.1
    have Hmany := Lib.hid (fit_many hh.1).1
    have Hok := Lib.hid hok
    obtain ⟨T1, hT1⟩ : ∃ T, (⟨#[98, 97, 108, 108, 111, 116, 115, 32]⟩ : ByteArray) ++ D = T := ⟨_, rfl⟩
    obtain ⟨T2, hT2⟩ : ∃ T, T1 ++ (⟨#[32, 108, 111, 116, 115, 32]⟩ : ByteArray) = T := ⟨_, rfl⟩
    obtain ⟨T3, hT3⟩ : ∃ T, T2 ++ X = T := ⟨_, rfl⟩
    obtain ⟨T4, hT4⟩ : ∃ T, T3 ++ (⟨#[10]⟩ : ByteArray) = T := ⟨_, rfl⟩
    obtain ⟨T5, hT5⟩ : ∃ T, T4 ++ M = T := ⟨_, rfl⟩
    obtain ⟨T6, hT6⟩ : ∃ T, T5 ++ (⟨#[119, 105, 110, 110, 101, 114, 32]⟩ : ByteArray) = T := ⟨_, rfl⟩
    obtain ⟨T7, hT7⟩ : ∃ T, T6 ++ Y = T := ⟨_, rfl⟩
    obtain ⟨T8, hT8⟩ : ∃ T, T7 ++ (⟨#[10]⟩ : ByteArray) = T := ⟨_, rfl⟩
    have l1 : (⟨#[98, 97, 108, 108, 111, 116, 115, 32]⟩ : ByteArray).size = 8 := rfl
    have l2 : (⟨#[32, 108, 111, 116, 115, 32]⟩ : ByteArray).size = 6 := rfl
    have l3 : (⟨#[10]⟩ : ByteArray).size = 1 := rfl
    have l4 : (⟨#[119, 105, 110, 110, 101, 114, 32]⟩ : ByteArray).size = 7 := rfl
    have z1 : T1.size = 8 + D.size := by rw [← hT1, ByteArray.size_append, l1]
    have z2 : T2.size = T1.size + 6 := by rw [← hT2, ByteArray.size_append, l2]
    have z3 : T3.size = T2.size + X.size := by rw [← hT3, ByteArray.size_append]
    have z4 : T4.size = T3.size + 1 := by rw [← hT4, ByteArray.size_append, l3]
    have z5 : T5.size = T4.size + M.size := by rw [← hT5, ByteArray.size_append]
    have z6 : T6.size = T5.size + 7 := by rw [← hT6, ByteArray.size_append, l4]
    have z7 : T7.size = T6.size + Y.size := by rw [← hT7, ByteArray.size_append]
    have z8 : T8.size = T7.size + 1 := by rw [← hT8, ByteArray.size_append, l3]
    have a1 := add_str _ _ _ hT1 (by omega)
    have a2 := add_str _ _ _ hT2 (by omega)
    have a3 := add_str _ _ _ hT3 (by omega)
    have a4 := add_str _ _ _ hT4 (by omega)
    have a5 := add_str _ _ _ hT5 (by omega)
    have a6 := add_str _ _ _ hT6 (by omega)
    have a7 := add_str _ _ _ hT7 (by omega)
    have a8 := add_str _ _ _ hT8 (by omega)
    have hfin : Hid (T8 = conText ps (N : Int) m (S : Int)) := Lib.hid (by
      rw [hct, ← hT8, ← hT7, ← hT6, ← hT5, ← hT4, ← hT3, ← hT2, ← hT1]
      simp only [ByteArray.append_assoc])
    have hnp2 : np ≤ 2000000 := by have := (fit_many hh.1).2.1; omega
    clear hT1 hT2 hT3 hT4 hT5 hT6 hT7 hT8 l1 l2 l3 l4 z1 z2 z3 z4 z5 z6 z7 z8 hct hms hds hbs hbv hM hY hX hD hV hZ hsum hlots hwe hL hres hll hh hN hok hnp
    go_enter Tryz.func44, Tryz.ntmps44
    go_wp2_with fail
    refine (c_l42Ok lo A0 np cap ps _ m _ _ h Hs.out).mono ?_
    rintro e w1 ⟨rfl, hg1⟩
    rw [Hok.out]
    have h1 := Piles.keep0 h hg1
    go_wp2_with fail
    refine (hcl.out _).mono ?_
    rintro e w2 ⟨B, k, c, rfl, hg2, hB⟩
    obtain rfl : k = N := by have := hB.1; simp [Hll.out] at this; exact this.symm
    have hI2 : Ints w2 w1.heap.size B k c lots := Sl.own hB
    have h2 := Piles.keep0 h1 hg2
    have hG2 := gb_trans hg1 hg2
    clear hB h1 hg1 hg2
    go_wp2_with fail
    refine (c_l3Total lo A0 np cap ps _ h2 Hmany.out hnp2).mono ?_
    rintro e w3 ⟨rfl, rfl⟩
    rw [HZ.out]
    go_wp2_with fail
    refine (hcd.out _).mono ?_
    rintro e w4 ⟨rfl, hg4⟩
    have h4 := Piles.keep0 h2 hg4
    have hI4 : Ints w4 w1.heap.size B k c lots := Sl.keep0 hI2 hg4
    have hG4 := gb_trans hG2 hg4
    clear hI2 h2 hg4
    go_wp2_with fail
    refine (c_spec_BallotText _ B k c lots _ hI4 (by omega)).mono ?_
    rintro e w5 ⟨rfl, d5, rfl⟩
    rw [HX.out]
    have h5 : Piles (w4.drewN d5) lo A0 np cap ps := Piles.keep0 h4 (gb_drewN (gb_refl _ _) _)
    have hI5 : Ints (w4.drewN d5) w1.heap.size B k c lots := Sl.drewN hI4 _
    have hG5 := gb_drewN hG4 d5
    clear h4 hI4 hG4
    go_wp2_with fail
    refine (c_l42Lines lo _ A0 B np cap k c ps m lots _ h5 hI5 Hs.out Hfit.out Hp.out).mono ?_
    rintro e w6 ⟨rfl, hg6⟩
    rw [HM.out]
    have h6 := Piles.keep0 h5 hg6
    have hG6 := gb_trans hG5 hg6
    clear h5 hI5 hG5 hg6
    go_wp2_with fail
    refine (hcw.out _ h6).mono ?_
    rintro e w7 ⟨rfl, hg7⟩
    have hG7 := gb_trans hG6 hg7
    go_wp2_with fail
    refine (c_spec_BallotText _ _ 1 1 [V] _ (ints_one _ V) (by omega)).mono ?_
    rintro e w8 ⟨rfl, d8, rfl⟩
    rw [HY.out]
    go_wp2
    go_ret
    exact ⟨ret_str hfin.out, gb_drewN (gb_alloc hG7 _) _⟩
  · have hok' : conOK ps n m s = false := by simpa using hok
    have Hok := Lib.hid hok'
    clear hok hok'
    go_enter Tryz.func44, Tryz.ntmps44
    go_wp2_with fail
    refine (c_l42Ok lo A0 np cap ps n m s _ h Hs.out).mono ?_
    rintro e w1 ⟨rfl, hg1⟩
    rw [Hok.out]
    go_wp2
    go_ret
    exact ⟨ret_str (by rw [conText_no Hok.out]), hg1⟩
end Go.Proofs.YtboobimpoddacaaGreatDoor
