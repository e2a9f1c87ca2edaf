/-
  BatchesLive of the program and of the reference.
-/
import Derived.Test.YtdhkhlemdlibfaaBatches
import Derived.Test.YtdhkhlemdlibfaaLive
namespace Go.Proofs.Ytdhkhlemdlibfaa
open Go.RowKit
set_option linter.unusedVariables false

/-- The numbers of live batches, or nothing. -/
def liveRes (bs : List Bt) : List Int := if batchesOK bs then liveIds bs else []
/-- A fresh slice of ints. -/
def IntsRes (xs : List Int) (w : World) (e : Ending) (w' : World) : Prop :=
  ∃ B m c, e = .returned (.slice B m c) ∧ w.grownBy w' none ∧ w'.ownsRow w.heap.size 3 1 (.slice B m c) m (xs.map (Value.int .i64))

set_option maxHeartbeats 1000000 in
theorem c_impl_BatchesLive (lo : Nat) (A : Option Addr) (n cap : Nat) (bs : List Bt) (w : World) (h : Bats w lo A n cap bs) (hlo : lo ≤ w.heap.size) (hn : n ≤ 2000000) (hs : ∀ b ∈ bs, ∀ p ∈ b.2.2, p.1.size ≤ 2000000) :
    Calls Try.prog 19 #[.slice A n cap] w (IntsRes (liveRes bs) w) := by
  have Hs := Lib.hid hs
  clear hs
  obtain ⟨V, hV⟩ : ∃ V, batchesOK bs = V := ⟨_, rfl⟩
  have HV := Lib.hid hV
  clear hV
  go_enter Try.func19, Try.ntmps19
  go_wp2_with fail
  refine (c_impl_BatchesValid lo A n cap bs _ h Hs.out).mono ?_
  rintro e w1 ⟨rfl, hg1⟩
  rw [HV.out]
  cases V with
  | false =>
    go_wp2
    go_ret
    exact ⟨none, 0, 0, rfl, hg1, by rw [liveRes, HV.out]; exact own_nil _ _ _ _⟩
  | true =>
    have hz1 := hg1.size
    go_wp2_with fail
    refine (c_liveBatches lo A n cap bs _ (Recs.keep0 h hg1) (by omega) hn).mono ?_
    rintro e w2 ⟨B, m, c, rfl, hg2, hL⟩
    have hlc := hL.le
    have hcm := hL.max
    have hml := Lib.hid hL.len
    have hG := gb_trans hg1 hg2
    have hm : m ≤ 2000000 := by
      have h1 := h.len
      have h2 : (live bs).length ≤ bs.length := List.length_filter_le _ _
      have := hml.out
      omega
    go_wp2
    go_loopw [3, 12] (fun v i wr => ∃ (k : Nat) (D : Option Addr) (d : Nat), k ≤ m ∧ i = .int .i64 k ∧ v = .slice D k d ∧ w2.grownBy wr none ∧ wr.ownsRow w2.heap.size 3 1 (.slice D k d) k (((liveIds bs).take k).map (Value.int .i64))) (fun _ i _ => m - (intOf i).toNat)
    case atStart => exact ⟨0, _, _, Nat.zero_le _, rfl, rfl, gb_refl _ _, own_nil _ _ _ _⟩
    case round =>
      obtain ⟨k, D, d, hk, rfl, rfl, hGr, hown⟩ := hrel
      rename World => wr
      by_cases hlt : k < m
      · obtain ⟨b, off, id, over, ps, A', c', rfl, hp, hps, m0, m1, m2⟩ := Bats.at_ (Recs.keep0 hL hGr) hlt
        have hk' : (k : Int) < (m : Int) := by omega
        have hk0 : (0 : Int) ≤ (k : Int) := by omega
        obtain ⟨N, hN⟩ : ∃ N, ps.length = N := ⟨_, rfl⟩
        rw [hN] at m2
        clear hN hps
        have hid : Hid ((liveIds bs)[k]? = some id) := Lib.hid (by rw [liveIds, List.getElem?_map, hp.out]; rfl)
        have hGa := gb_alloc (gb_alloc (gb_refl wr none) (.cells #[.int .i64 id, .int .i64 over, .slice A' N c'] 34)) (.cells #[.int .i64 id] 3)
        have hown1 := own_below hown hGa
        have hz3 := Nat.le_trans hGr.size hGa.size
        have hBn := Blk.new (wr.alloc (.cells #[.int .i64 id, .int .i64 over, .slice A' N c'] 34)) 3 #[.int .i64 id]
        rw [show (wr.alloc (.cells #[.int .i64 id, .int .i64 over, .slice A' N c'] 34)).heap.size = wr.heap.size + 1 from by simp] at hBn
        go_wp2_with (at_builtin; refine wpList_appB intE rfl _ _ rfl w2.heap.size k _ _ rfl hown1 (wr.heap.size + 1) [_] rfl hBn rfl (by simp [Value.oneCell']) (by omega) (by omega) hz3 ?_; intro D' d' w3 hown3 hb3 hg3 hat3)
        go_roundw
        case rel => exact ⟨k + 1, D', d', by omega, by go_num, rfl, gb_of_below ((gb_below (gb_trans hGr hGa)).trans hb3) none, by rw [take_succ_of hid.out, List.map_append]; exact hown3⟩
        case measure => simp [intOf]; omega
      · obtain rfl : k = m := by omega
        have hfin : Hid ((liveIds bs).take k = liveRes bs) := Lib.hid (by rw [liveRes, HV.out, if_pos rfl, List.take_of_length_le (by rw [liveIds, List.length_map, hml.out]; exact Nat.le_refl _)])
        rw [hfin.out] at hown
        go_wp2
        go_ret
        exact ⟨D, k, d, rfl, gb_trans hG hGr, own_lo hown hG.size⟩

end Go.Proofs.Ytdhkhlemdlibfaa
