/-
  BatchesLive of the program and of the reference.
-/
import Derived.Test.YtbhchlnbhimcpaaBatches
import Derived.Test.YtbhchlnbhimcpaaLive
namespace Go.Proofs.Ytbhchlnbhimcpaa
open Go.RowKit
set_option linter.unusedVariables false

/-- The numbers of live batches, or nothing. -/
def liveRes (bs : List Bt) : List Int := if batchesOK bs then liveIds bs else []
/-- A fresh slice of ints. -/
def IntsRes (xs : List Int) (w : World) (e : Ending) (w' : World) : Prop :=
  ∃ B m c, e = .returned (.slice B m c) ∧ w.grownBy w' none ∧ w'.ownsRow w.heap.size 3 1 (.slice B m c) m (xs.map (Value.int .i64))

set_option maxHeartbeats 1000000 in
theorem c_impl_BatchesLive (lo : Nat) (A : Option Addr) (n cap : Nat) (bs : List Bt) (w : World) (h : Bats w lo A n cap bs) (hlo : lo ≤ w.heap.size) (hn : n ≤ 2000000) (hs : ∀ b ∈ bs, ∀ p ∈ b.2.2, p.1.size ≤ 2000000) :
    Calls Try.prog 22 #[.slice A n cap] w (IntsRes (liveRes bs) w) := by
  have Hs := Lib.hid hs
  clear hs
  obtain ⟨V, hV⟩ : ∃ V, batchesOK bs = V := ⟨_, rfl⟩
  have HV := Lib.hid hV
  clear hV
  go_enter Try.func22, Try.ntmps22
  go_wp2_with fail
  refine (c_impl_BatchesValid lo A n cap bs _ h Hs.out).mono ?_
  rintro e w1 ⟨rfl, hg1⟩
  rw [HV.out]
  cases V with
  | false =>
    go_wp2
    go_ret
    exact ⟨none, 0, 0, rfl, hg1, by rw [liveRes, HV.out]; exact own_nil _ _ _ _⟩
  | true =>
    have hz1 := hg1.size
    go_wp2_with fail
    refine (c_liveBatches lo A n cap bs _ (Recs.keep0 h hg1) (by omega) hn).mono ?_
    rintro e w2 ⟨B, m, c, rfl, hg2, hL⟩
    have hlc := hL.le
    have hcm := hL.max
    have hml := Lib.hid hL.len
    have hG := gb_trans hg1 hg2
    have hm : m ≤ 2000000 := by
      have h1 := h.len
      have h2 : (live bs).length ≤ bs.length := List.length_filter_le _ _
      have := hml.out
      omega
    go_wp2
    go_loopw [3, 12] (fun v i wr => ∃ (k : Nat) (D : Option Addr) (d : Nat), k ≤ m ∧ i = .int .i64 k ∧ v = .slice D k d ∧ w2.grownBy wr none ∧ wr.ownsRow w2.heap.size 3 1 (.slice D k d) k (((liveIds bs).take k).map (Value.int .i64))) (fun _ i _ => m - (intOf i).toNat)
    case atStart => exact ⟨0, _, _, Nat.zero_le _, rfl, rfl, gb_refl _ _, own_nil _ _ _ _⟩
    case round =>
      obtain ⟨k, D, d, hk, rfl, rfl, hGr, hown⟩ := hrel
      rename World => wr
      by_cases hlt : k < m
      · obtain ⟨b, off, id, over, ps, A', c', rfl, hp, hps, m0, m1, m2⟩ := Bats.at_ (Recs.keep0 hL hGr) hlt
        have hk' : (k : Int) < (m : Int) := by omega
        have hk0 : (0 : Int) ≤ (k : Int) := by omega
        obtain ⟨N, hN⟩ : ∃ N, ps.length = N := ⟨_, rfl⟩
        rw [hN] at m2
        clear hN hps
        have hid : Hid ((liveIds bs)[k]? = some id) := Lib.hid (by rw [liveIds, List.getElem?_map, hp.out]; rfl)
        have hGa := gb_alloc (gb_alloc (gb_refl wr none) (.cells #[.int .i64 id, .int .i64 over, .slice A' N c'] 36)) (.cells #[.int .i64 id] 3)
        have hown1 := own_below hown hGa
        have hz3 := Nat.le_trans hGr.size hGa.size
        have hBn := Blk.new (wr.alloc (.cells #[.int .i64 id, .int .i64 over, .slice A' N c'] 36)) 3 #[.int .i64 id]
        rw [show (wr.alloc (.cells #[.int .i64 id, .int .i64 over, .slice A' N c'] 36)).heap.size = wr.heap.size + 1 from by simp] at hBn
        go_wp2_with (at_builtin; refine wpList_appB intE rfl _ _ rfl w2.heap.size k _ _ rfl hown1 (wr.heap.size + 1) [_] rfl hBn rfl (by simp [Value.oneCell']) (by omega) (by omega) hz3 ?_; intro D' d' w3 hown3 hb3 hg3 hat3)
        go_roundw
        case rel => exact ⟨k + 1, D', d', by omega, by go_num, rfl, gb_of_below ((gb_below (gb_trans hGr hGa)).trans hb3) none, by rw [take_succ_of hid.out, List.map_append]; exact hown3⟩
        case measure => simp [intOf]; omega
      · obtain rfl : k = m := by omega
        have hfin : Hid ((liveIds bs).take k = liveRes bs) := Lib.hid (by rw [liveRes, HV.out, if_pos rfl, List.take_of_length_le (by rw [liveIds, List.length_map, hml.out]; exact Nat.le_refl _)])
        rw [hfin.out] at hown
        go_wp2
        go_ret
        exact ⟨D, k, d, rfl, gb_trans hG hGr, own_lo hown hG.size⟩

set_option maxHeartbeats 400000 in
theorem c_l43Over (lo : Nat) (A : Option Addr) (n cap : Nat) (bs : List Bt) (id : Int) (w : World) (h : Bats w lo A n cap bs) :
    Calls Try.prog 56 #[.slice A n cap, .int .i64 id] w fun e w' => e = .returned (.bool (overB bs id)) ∧ w = w' := by
  have hlc := h.le
  have hcm := h.max
  have hxl := Lib.hid h.len
  go_enter Try.func56, Try.ntmps56
  go_wp2
  go_loop [5] (fun i => ∃ k : Nat, k ≤ n ∧ i = .int .i64 k ∧ Hid ((bs.take k).any (fun b => b.2.1 == id) = false)) (fun i => n - (intOf i).toNat)
  case atStart => exact ⟨0, Nat.zero_le _, rfl, Lib.hid rfl⟩
  case round =>
    obtain ⟨k, hk, rfl, hpre⟩ := hrel
    by_cases hlt : k < n
    · obtain ⟨b, off, i2, o2, ps, A', c', rfl, hp, hps, m0, m1, m2⟩ := Bats.at_ h hlt
      have hk' : (k : Int) < (n : Int) := by omega
      have hk0 : (0 : Int) ≤ (k : Int) := by omega
      clear hps m2
      by_cases ho : o2 = id
      · have hob : (o2 == id) = true := by simpa using ho
        have Ho := Lib.hid ho
        clear ho
        go_wp2
        go_ret
        exact ⟨ret_bool (by
          unfold overB
          exact (List.any_eq_true.2 ⟨_, List.mem_of_getElem? hp.out, by simp [Ho.out]⟩).symm), rfl⟩
      · have hob : (o2 == id) = false := by simpa using ho
        have Ho := Lib.hid ho
        clear ho
        go_wp2
        go_round
        case rel => exact ⟨k + 1, by omega, by go_num, Lib.hid (by rw [take_succ_of hp.out, List.any_append, hpre.out]; simp [Ho.out])⟩
        case measure => simp [intOf]; omega
    · obtain rfl : k = n := by omega
      go_wp2
      go_ret
      exact ⟨ret_bool (by
        unfold overB
        have := hpre.out
        rw [List.take_of_length_le (by rw [hxl.out]; exact Nat.le_refl _)] at this
        exact this.symm), rfl⟩

set_option maxHeartbeats 1000000 in
theorem c_spec_BatchesLive (lo : Nat) (A : Option Addr) (n cap : Nat) (bs : List Bt) (w : World) (h : Bats w lo A n cap bs) (hn : n ≤ 2000000) (hs : ∀ b ∈ bs, ∀ p ∈ b.2.2, p.1.size ≤ 2000000) :
    Calls Try.prog 23 #[.slice A n cap] w (IntsRes (liveRes bs) w) := by
  have Hs := Lib.hid hs
  have hlc := h.le
  have hcm := h.max
  have hxl := Lib.hid h.len
  clear hs
  obtain ⟨V, hV⟩ : ∃ V, batchesOK bs = V := ⟨_, rfl⟩
  have HV := Lib.hid hV
  clear hV
  go_enter Try.func23, Try.ntmps23
  go_wp2
  go_loopw [3, 4] (fun v i wr => ∃ (k j : Nat) (D : Option Addr) (d : Nat) (zs : List Int), k ≤ n ∧ j ≤ k ∧ i = .int .i64 k ∧ v = .slice D j d ∧ w.grownBy wr none ∧ wr.ownsRow w.heap.size 3 1 (.slice D j d) j (zs.map (Value.int .i64)) ∧ Hid (zs = ((bs.take k).filter (fun b => !overB bs b.1)).map (·.1)) ∧ Hid (V = true ∨ k = 0)) (fun _ i _ => n - (intOf i).toNat)
  case atStart => exact ⟨0, 0, _, _, [], Nat.zero_le _, Nat.le_refl _, rfl, rfl, gb_alloc (gb_refl _ _) _, own_empty _ _ _ _ (Nat.le_refl _), Lib.hid rfl, Lib.hid (.inr rfl)⟩
  case round =>
    obtain ⟨k, j, D, d, zs, hk, hjk, rfl, rfl, hG, hown, hz, hvk⟩ := hrel
    by_cases hlt : k < n
    · have hk' : (k : Int) < (n : Int) := by omega
      have hk0 : (0 : Int) ≤ (k : Int) := by omega
      cases V with
      | false =>
        have hk00 : k = 0 := by rcases hvk.out with h1 | h1; cases h1; exact h1
        go_wp2_with fail
        refine (c_spec_BatchesValid lo A n cap bs _ (Recs.keep0 h hG) Hs.out).mono ?_
        rintro e w1 ⟨rfl, hg1⟩
        rw [HV.out]
        have hzs : Hid (zs = []) := Lib.hid (by rw [hz.out, hk00]; rfl)
        have hown1 := own_below hown hg1
        rw [hzs.out] at hown1
        go_wp2
        go_ret
        exact ⟨D, j, d, rfl, gb_trans hG hg1, by rw [liveRes, HV.out]; exact hown1⟩
      | true =>
        go_wp2_with fail
        refine (c_spec_BatchesValid lo A n cap bs _ (Recs.keep0 h hG) Hs.out).mono ?_
        rintro e w1 ⟨rfl, hg1⟩
        rw [HV.out]
        have hG1 := gb_trans hG hg1
        have hown1 := own_below hown hg1
        have hI := Recs.keep0 h hG1
        obtain ⟨b, off, id, over, ps, A', c', rfl, hp, hps, m0, m1, m2⟩ := Bats.at_ hI hlt
        clear hps m2
        have hz1 := hG1.size
        obtain ⟨O, hO⟩ : ∃ O, overB bs id = O := ⟨_, rfl⟩
        have HO := Lib.hid hO
        clear hO hown
        go_wp2_with fail
        refine (c_l43Over lo _ n cap bs id _ hI).mono ?_
        rintro e w2 ⟨rfl, rfl⟩
        rw [HO.out]
        cases O with
        | true =>
          go_wp2
          go_roundw
          case rel => exact ⟨k + 1, j, D, d, zs, by omega, by omega, by go_num, rfl, hG1, hown1, Lib.hid (by rw [live_take hp.out, HO.out, if_pos rfl, List.append_nil]; exact hz.out), Lib.hid (.inl trivial)⟩
          case measure => simp [intOf]; omega
        | false =>
          go_wp2_with (at_builtin; refine wpList_app intE rfl _ _ rfl w.heap.size j _ _ rfl hown1 [_] rfl rfl (by simp [Value.oneCell']) (by omega) (by omega) hz1 ?_; intro D' d' w3 hown3 hb3 hg3 hat3)
          go_roundw
          case rel => exact ⟨k + 1, j + 1, D', d', zs ++ [id], by omega, by omega, by go_num, rfl, gb_of_below ((gb_below hG1).trans hb3) none, by rw [List.map_append]; exact hown3, Lib.hid (by rw [live_take hp.out, HO.out, hz.out]; simp), Lib.hid (.inl trivial)⟩
          case measure => simp [intOf]; omega
    · obtain rfl : k = n := by omega
      have hfin : Hid (zs = liveRes bs) := Lib.hid (by
        have h1 : zs = liveIds bs := by
          have := hz.out
          rwa [List.take_of_length_le (by rw [hxl.out]; exact Nat.le_refl _)] at this
        rw [h1, liveRes]
        rcases hvk.out with h2 | h2
        · rw [HV.out, h2, if_pos rfl]
        · have hb : bs = [] := List.eq_nil_of_length_eq_zero (by rw [hxl.out]; exact h2)
          subst hb
          rfl)
      rw [hfin.out] at hown
      go_wp2
      go_ret
      exact ⟨D, j, d, rfl, hG, hown⟩
end Go.Proofs.Ytbhchlnbhimcpaa
