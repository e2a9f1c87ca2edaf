/-
  BatchesChange of the reference.
-/
import Derived.Test.YtbhchlnbhimcpaaChangeLaw
namespace Go.Proofs.Ytbhchlnbhimcpaa
open Go.RowKit
set_option linter.unusedVariables false

def chgOK (a b : List Bt) : Bool := totOK a && totOK b
def chgRes (a b : List Bt) : Int := if chgOK a b then sumPl (chgL (totRes a) (totRes b)) else 0
def ChgRes (a b : List Bt) (w : World) (e : Ending) (w' : World) : Prop := e = .returned (.tuple #[.int .i64 (chgRes a b), .bool (chgOK a b)]) ∧ w.grownBy w' none
theorem tot_vld {bs : List Bt} (h : totOK bs = true) : Vld (totRes bs) ∧ totRes bs = canon (liveEs bs) := by
  have hr : totRes bs = canon (liveEs bs) := by rw [totRes, h]; rfl
  unfold totOK at h
  rw [Bool.and_eq_true] at h
  rw [hr]
  exact ⟨Vld.of h.2, rfl⟩
theorem tot_sizes {bs : List Bt} {M : Nat} (h : ∀ b ∈ bs, ∀ p ∈ b.2.2, p.1.size ≤ M) : ∀ p ∈ totRes bs, p.1.size ≤ M := by
  rw [totRes]
  split
  · exact canon_sizes (liveEs_sizes h)
  · intro p hp; cases hp

theorem mx_max (d : Int) : mx d = max d (-d) := by unfold mx; split <;> omega
theorem sumX_snoc (ys l : List Pl) (p : Pl) : sumPl (chgX ys (l ++ [p])) = sumPl (chgX ys l) + mx (p.2 - look ys p.1) := by simp [chgX, sumPl]
theorem sumY_snoc (xs l : List Pl) (p : Pl) : sumPl (chgY xs (l ++ [p])) = sumPl (chgY xs l) + (if look xs p.1 = 0 then p.2 else 0) := by
  unfold chgY
  rw [List.filter_append, sumPl_app]
  by_cases h : look xs p.1 = 0
  · rw [if_pos h, List.filter_cons_of_pos (by simpa using h)]; simp [sumPl]
  · rw [if_neg h, List.filter_cons_of_neg (by simpa using h)]; simp [sumPl]

set_option maxHeartbeats 400000 in
theorem c_l43Many (lo : Nat) (A : Option Addr) (n cap : Nat) (ps : List Pl) (t : ByteArray) (w : World) (h : Piles w lo A n cap ps) :
    Calls Try.prog 71 #[.slice A n cap, .string t] w fun e w' => e = .returned (.int .i64 (look ps t)) ∧ w = w' := by
  have hlc := h.1
  have hcm := Sl.max h
  have hxl := Lib.hid h.len
  go_enter Try.func71, Try.ntmps71
  go_wp2
  go_loop [5] (fun i => ∃ k : Nat, k ≤ n ∧ i = .int .i64 k ∧ Hid (look ps t = look (ps.drop k) t)) (fun i => n - (intOf i).toNat)
  case atStart => exact ⟨0, Nat.zero_le _, rfl, Lib.hid rfl⟩
  case round =>
    obtain ⟨k, hk, rfl, hpre⟩ := hrel
    by_cases hlt : k < n
    · obtain ⟨b, off, ⟨s, q⟩, rfl, _, _, hz, m0, m1⟩ := Piles.at_ h hlt
      have hk' : (k : Int) < (n : Int) := by omega
      have hk0 : (0 : Int) ≤ (k : Int) := by omega
      by_cases ho : s = t
      · have hob : (s.toList == t.toList) = true := by rw [ho]; simp
        have Ho := Lib.hid ho
        clear ho
        go_wp2
        go_ret
        exact ⟨ret_int (by rw [hpre.out, drop_cons' hz.out, look, if_pos Ho.out]), rfl⟩
      · have hob : (s.toList == t.toList) = false := str_ne ho
        have Ho := Lib.hid ho
        clear ho
        go_wp2
        go_round
        case rel => exact ⟨k + 1, by omega, by go_num, Lib.hid (by rw [hpre.out, drop_cons' hz.out, look, if_neg Ho.out])⟩
        case measure => simp [intOf]; omega
    · obtain rfl : k = n := by omega
      go_wp2
      go_ret
      exact ⟨ret_int (by rw [hpre.out, List.drop_of_length_le (by rw [hxl.out]; exact Nat.le_refl _)]; rfl), rfl⟩

attribute [local go_sem] flowAct flowOp_def flowUpon
set_option maxHeartbeats 4000000 in
theorem c_spec_BatchesChange (lo lo' : Nat) (A B : Option Addr) (n cap m cap' : Nat) (cs bs : List Bt) (w : World) (ha : Bats w lo A n cap cs) (hb : Bats w lo' B m cap' bs) (hlo : lo ≤ w.heap.size) (hlo' : lo' ≤ w.heap.size) (hn : n ≤ 1100000) (hm : m ≤ 1100000)
    (hp : ∀ b ∈ cs, b.2.2.length ≤ 1100000) (hp' : ∀ b ∈ bs, b.2.2.length ≤ 1100000) (hs : ∀ b ∈ cs, ∀ p ∈ b.2.2, p.1.size ≤ 2000000) (hs' : ∀ b ∈ bs, ∀ p ∈ b.2.2, p.1.size ≤ 2000000) :
    Calls Try.prog 44 #[.slice A n cap, .slice B m cap'] w (ChgRes cs bs w) := by
  have hc1 := Lib.hid (c_spec_BatchesTotal lo A n cap cs w ha hlo hn hp hs)
  have hc2 : Hid (∀ w' : World, w.grownBy w' none → Calls Try.prog 38 #[.slice B m cap'] w' (PilesOkRes (totRes bs) (totOK bs) w')) := Lib.hid (fun w' hg => c_spec_BatchesTotal lo' B m cap' bs w' (Recs.keep0 hb hg) (Nat.le_trans hlo' hg.size) hm hp' hs')
  clear ha hb hp hp' hs hs'
  obtain ⟨xs, hxs⟩ : ∃ xs, totRes cs = xs := ⟨_, rfl⟩
  have Hxs := Lib.hid hxs
  obtain ⟨ys, hys⟩ : ∃ ys, totRes bs = ys := ⟨_, rfl⟩
  have Hys := Lib.hid hys
  obtain ⟨O1, hO1⟩ : ∃ O, totOK cs = O := ⟨_, rfl⟩
  have HO1 := Lib.hid hO1
  obtain ⟨O2, hO2⟩ : ∃ O, totOK bs = O := ⟨_, rfl⟩
  have HO2 := Lib.hid hO2
  have Hres : Hid (chgRes cs bs = if (O1 && O2) = true then sumPl (chgL xs ys) else 0) := Lib.hid (by rw [chgRes, chgOK, hO1, hO2, hxs, hys])
  have Hok : Hid (chgOK cs bs = (O1 && O2)) := Lib.hid (by rw [chgOK, hO1, hO2])
  rw [hxs, hO1] at hc1
  rw [hys, hO2] at hc2
  obtain ⟨N, hN⟩ : ∃ N, xs.length = N := ⟨_, rfl⟩
  have HN := Lib.hid hN
  obtain ⟨M, hM⟩ : ∃ M, ys.length = M := ⟨_, rfl⟩
  have HM := Lib.hid hM
  clear hxs hys hO1 hO2 hN hM
  go_enter Try.func44, Try.ntmps44
  go_wp2_with fail
  refine hc1.out.mono ?_
  rintro e w1 ⟨B1, c1, rfl, hg1, ho1⟩
  rw [HN.out] at ho1
  rw [HN.out]
  go_wp2_with fail
  refine (hc2.out _ hg1).mono ?_
  rintro e w2 ⟨B2, c2, rfl, hg2, ho2⟩
  rw [HM.out] at ho2
  rw [HM.out]
  have hG2 := gb_trans hg1 hg2
  have hP1 := Piles.keep0 (Sl.own ho1) hg2
  have hP2 : Piles w2 w1.heap.size B2 M c2 ys := Sl.own ho2
  have hl1 := hP1.1
  have hl2 := hP2.1
  have hm1 := Sl.max hP1
  have hm2 := Sl.max hP2
  clear ho1 ho2
  rcases hOO : (O1 && O2) with _ | _
  · have Hoo := Lib.hid hOO
    have hres0 : Hid (ChgRes cs bs w (.returned (.tuple #[.int .i64 0, .bool false])) w2) := Lib.hid ⟨by rw [Hres.out, Hok.out, hOO]; rfl, hG2⟩
    cases O1 with
    | false =>
      clear hOO
      go_wp2
      go_ret2
      exact hres0.out
    | true =>
      cases O2 with
      | false =>
        clear hOO
        go_wp2
        go_ret2
        exact hres0.out
      | true => cases hOO
  · obtain ⟨rfl, rfl⟩ : O1 = true ∧ O2 = true := by cases O1 <;> cases O2 <;> simp_all
    have hx : Hid (Vld xs) := Lib.hid (by rw [← Hxs.out]; exact (tot_vld HO1.out).1)
    have hy : Hid (Vld ys) := Lib.hid (by rw [← Hys.out]; exact (tot_vld HO2.out).1)
    have hfin : Hid (∀ x : World, w2.grownBy x none → ChgRes cs bs w (.returned (.tuple #[.int .i64 (sumPl (chgX ys xs) + sumPl (chgY xs ys)), .bool true])) x) := Lib.hid (fun x hg => ⟨by rw [Hres.out, Hok.out, hOO, if_pos rfl, chgL, sumPl_app], gb_trans hG2 hg⟩)
    have hN12 : N ≤ 12 := by have := hx.out.len; rw [HN.out] at this; exact this
    have hM12 : M ≤ 12 := by have := hy.out.len; rw [HM.out] at this; exact this
    clear hOO
    go_wp2
    go_loopw [10, 11] (fun v i wr => ∃ (k : Nat) (F : Int), k ≤ N ∧ i = .int .i64 k ∧ v = .int .i64 F ∧ 0 ≤ F ∧ F ≤ 99 * k ∧ Hid (F = sumPl (chgX ys (xs.take k))) ∧ w2.grownBy wr none) (fun _ i _ => N - (intOf i).toNat)
    case atStart => exact ⟨0, 0, Nat.zero_le _, rfl, rfl, by omega, by omega, Lib.hid rfl, gb_refl _ _⟩
    case round =>
      obtain ⟨k, F, hk, rfl, rfl, hF0, hF1, hF, hG⟩ := hrel
      rename World => wr
      by_cases hlt : k < N
      · have hP2r := hP2.keep0 hG
        obtain ⟨b, off, ⟨s, q⟩, rfl, _, _, hz, p0, p1⟩ := Piles.at_ (hP1.keep0 hG) hlt
        have hk' : (k : Int) < (N : Int) := by omega
        have hk0 : (0 : Int) ≤ (k : Int) := by omega
        have hq : 1 ≤ q ∧ q ≤ 99 := hx.out.val _ (List.mem_of_getElem? hz.out)
        have hl := hy.out.look s
        obtain ⟨S, hS⟩ : ∃ S, look ys s = S := ⟨_, rfl⟩
        have HS := Lib.hid hS
        rw [hS] at hl
        clear hS
        have hcall : ∀ x : World, wr.grownBy x none → Calls Try.prog 71 #[.slice B2 M c2, .string s] x fun e w' => e = .returned (.int .i64 S) ∧ x = w' := fun x hg => by
          have := c_l43Many _ B2 M c2 ys s x (hP2r.keep0 hg)
          rwa [HS.out] at this
        obtain ⟨d, hd⟩ : ∃ d, q - S = d := ⟨_, rfl⟩
        have hd1 : -99 ≤ d ∧ d ≤ 99 := by omega
        have hcx : Hid (sumPl (chgX ys (xs.take (k + 1))) = F + mx d) := Lib.hid (by
          rw [take_succ_of hz.out, sumX_snoc, ← hd, ← HS.out, hF.out])
        have hw : IntKind.i64.wrap (q - S) = d := by rw [IntWalk.i64_in _ (by omega), hd]
        clear hd
        have hmb := mx_bound hd1
        go_wp2_with fail
        refine wp_known wr [.slice (some ⟨b, off, none⟩) N c1, .int .i64 k, .pointer (some ⟨b, off + k * 2, none⟩), .pointer (some ⟨b, off + k * 2 + 1, none⟩), .int .i64 q, .slice B2 M c2, .slice (some ⟨b, off, none⟩) N c1, .int .i64 k, .pointer (some ⟨b, off + k * 2, none⟩), .pointer (some ⟨b, off + k * 2, none⟩), .string s, .int .i64 S, .int .i64 d, .int .i64 d] (gb_refl _ _) (by kernel_rfl) (by kernel_rfl) ?_ ?_
        · refine ⟨?_, ?_, ?_, ?_, ?_, ?_, ?_, ?_, ?_, ?_, ?_, ?_, ?_, ?_, trivial⟩
          all_goals
            intro n u x hn hC hp
            simp [flowPreds, Region.binds, fKnown] at hp
            have n0 := gb_cell hC p0 (by simp)
            have n1 := gb_cell hC p1 (by simp)
            go_simp
          all_goals try exact ⟨gb_refl _ _, rfl⟩
          · refine (hcall x hC).mono ?_
            rintro e y ⟨rfl, rfl⟩
            exact ⟨_, rfl, gb_refl _ _, rfl⟩
        · intro u x hC hp'
          have e13 : u 13 = .int .i64 d := hp' 13 (by decide)
          go_simp
          go_wp2
          go_roundw
          case rel => exact ⟨k + 1, F + max d (-d), by omega, by go_num, rfl, by omega, by omega, Lib.hid (by rw [hcx.out, mx_max]), gb_trans hG hC⟩
          case measure => simp [intOf]; omega
      · obtain rfl : k = N := by omega
        have hX : Hid (F = sumPl (chgX ys xs)) := Lib.hid (by rw [hF.out, List.take_of_length_le (by rw [HN.out]; exact Nat.le_refl _)])
        clear hF
        go_wp2
        go_loopw [10, 13] (fun v i x => ∃ (j : Nat) (F' : Int), j ≤ M ∧ i = .int .i64 j ∧ v = .int .i64 F' ∧ 0 ≤ F' ∧ F' ≤ 99 * k + 99 * j ∧ Hid (F' = F + sumPl (chgY xs (ys.take j))) ∧ w2.grownBy x none) (fun _ i _ => M - (intOf i).toNat)
        case atStart => exact ⟨0, F, Nat.zero_le _, rfl, rfl, by omega, by omega, Lib.hid (by simp [chgY, sumPl]), hG⟩
        case round =>
          clear hG
          obtain ⟨j, F', hj, rfl, rfl, hF0', hF1', hF', hG⟩ := hrel
          rename World => x
          by_cases hlt' : j < M
          · have hP1r := hP1.keep0 hG
            obtain ⟨b, off, ⟨s, q⟩, rfl, _, _, hz, p0, p1⟩ := Piles.at_ (hP2.keep0 hG) hlt'
            have hj' : (j : Int) < (M : Int) := by omega
            have hj0 : (0 : Int) ≤ (j : Int) := by omega
            have hq : 1 ≤ q ∧ q ≤ 99 := hy.out.val _ (List.mem_of_getElem? hz.out)
            have hsn : Hid (sumPl (chgY xs (ys.take (j + 1))) = sumPl (chgY xs (ys.take j)) + (if look xs s = 0 then q else 0)) := Lib.hid (by rw [take_succ_of hz.out, sumY_snoc])
            obtain ⟨S, hS⟩ : ∃ S, look xs s = S := ⟨_, rfl⟩
            have HS := Lib.hid hS
            clear hS
            go_wp2_with fail
            refine (c_l43Many _ B1 k c1 xs s x hP1r).mono ?_
            rintro e w4 ⟨rfl, rfl⟩
            rw [HS.out]
            by_cases hS0 : S = 0
            · have hSb : (S == 0) = true := by simpa using hS0
              have HS0 := Lib.hid hS0
              clear hS0
              go_wp2
              go_roundw
              case rel => exact ⟨j + 1, F' + q, by omega, by go_num, rfl, by omega, by omega, Lib.hid (by rw [hsn.out, HS.out, if_pos HS0.out, hF'.out]; omega), hG⟩
              case measure => simp [intOf]; omega
            · have hSb : (S == 0) = false := by simpa using hS0
              have HS0 := Lib.hid hS0
              clear hS0
              go_wp2
              go_roundw
              case rel => exact ⟨j + 1, F', by omega, by go_num, rfl, by omega, by omega, Lib.hid (by rw [hsn.out, HS.out, if_neg HS0.out, hF'.out]; omega), hG⟩
              case measure => simp [intOf]; omega
          · obtain rfl : j = M := by omega
            have hY : F' = sumPl (chgX ys xs) + sumPl (chgY xs ys) := by rw [hF'.out, List.take_of_length_le (by rw [HM.out]; exact Nat.le_refl _), hX.out]
            have hend := hfin.out x hG
            rw [← hY] at hend
            have Hend := Lib.hid hend
            clear hY hend
            go_wp2
            go_ret2
            exact Hend.out
end Go.Proofs.Ytbhchlnbhimcpaa
