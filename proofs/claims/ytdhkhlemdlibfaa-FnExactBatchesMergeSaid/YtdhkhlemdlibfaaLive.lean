/-
  Live batches: the program's and the reference's.
-/
import Derived.Test.YtdhkhlemdlibfaaOwn
import Derived.Test.YtdhkhlemdlibfaaKnown
import Derived.Test.YtdhkhlemdlibfaaApp
namespace Go.Proofs.Ytdhkhlemdlibfaa
open Go.RowKit
set_option linter.unusedVariables false

/-- Does a batch stand in the place of a number? -/
def overB (bs : List Bt) (id : Int) : Bool := bs.any fun b => b.2.1 == id
def live (bs : List Bt) : List Bt := bs.filter fun b => !overB bs b.1
def liveIds (bs : List Bt) : List Int := (live bs).map (·.1)

theorem c_live1 (g : Nat) (id i2 o2 : Int) (s : Value) (w : World) (hg : w.cell? ⟨g, 0, none⟩ = some (.int .i64 id)) :
    Calls Try.prog 56 #[.agg #[.int .i64 i2, .int .i64 o2, s], .pointer (some ⟨g, 0, none⟩)] w fun e w' => e = .returned (.bool (o2 == id)) ∧ w.grownBy w' none := by
  have hg1 := gb_cell (gb_alloc (gb_refl w none) (.cells #[.int .i64 i2, .int .i64 o2, s] 34)) hg (by simp)
  go_enter Try.func56, Try.ntmps56
  go_wp2
  go_ret
  exact ⟨rfl, gb_alloc (gb_refl _ _) _⟩

set_option maxHeartbeats 1000000 in
theorem c_liveIndex (lo : Nat) (A : Option Addr) (n cap g : Nat) (id : Int) (bs : List Bt) (w : World) (h : Bats w lo A n cap bs) (hg : w.cell? ⟨g, 0, none⟩ = some (.int .i64 id)) :
    Calls Try.prog 66 #[.slice A n cap, .func (.func 56) #[] #[.pointer (some ⟨g, 0, none⟩)]] w fun e w' => ∃ r : Int, e = .returned (.int .i64 r) ∧ (decide (0 ≤ r)) = overB bs id ∧ w.grownBy w' none := by
  have hlc := h.le
  have hcm := h.max
  have hxl := Lib.hid h.len
  go_enter Try.func66, Try.ntmps66
  go_wp2
  go_loopw [8] (fun i wr => ∃ k : Nat, k ≤ n ∧ i = .int .i64 k ∧ w.grownBy wr none ∧ Hid ((bs.take k).any (fun b => b.2.1 == id) = false)) (fun i _ => n - (intOf i).toNat)
  case atStart => exact ⟨0, Nat.zero_le _, rfl, gb_refl _ _, Lib.hid rfl⟩
  case round =>
    obtain ⟨k, hk, rfl, hG, hpre⟩ := hrel
    by_cases hlt : k < n
    · obtain ⟨b, off, i2, o2, ps, A', c', rfl, hp, hps, m0, m1, m2⟩ := Bats.at_ (Recs.keep0 h hG) hlt
      have hk' : (k : Int) < (n : Int) := by omega
      have hk0 : (0 : Int) ≤ (k : Int) := by omega
      obtain ⟨N, hN⟩ : ∃ N, ps.length = N := ⟨_, rfl⟩
      rw [hN] at m2
      clear hN hps
      have hgr := gb_cell hG hg (by simp)
      go_wp2_with fail
      refine (c_live1 g id i2 o2 _ _ hgr).mono ?_
      rintro e w1 ⟨rfl, hg1⟩
      by_cases ho : o2 = id
      · have hob : (o2 == id) = true := by simpa using ho
        have Ho := Lib.hid ho
        clear ho
        go_wp2
        go_ret
        exact ⟨_, rfl, by
          unfold overB
          rw [decide_eq_true (by omega)]
          exact (List.any_eq_true.2 ⟨_, List.mem_of_getElem? hp.out, by simp [Ho.out]⟩).symm, gb_trans hG hg1⟩
      · have hob : (o2 == id) = false := by simpa using ho
        have Ho := Lib.hid ho
        clear ho
        go_wp2
        go_roundw
        case rel => exact ⟨k + 1, by omega, by go_num, gb_trans hG hg1, Lib.hid (by rw [take_succ_of hp.out, List.any_append, hpre.out]; simp [Ho.out])⟩
        case measure => simp [intOf]; omega
    · obtain rfl : k = n := by omega
      go_wp2
      go_ret
      exact ⟨_, rfl, by
        unfold overB
        have := hpre.out
        rw [List.take_of_length_le (by rw [hxl.out]; exact Nat.le_refl _)] at this
        rw [this]
        rfl, hG⟩

theorem c_liveContains (lo : Nat) (A : Option Addr) (n cap g : Nat) (id : Int) (bs : List Bt) (w : World) (h : Bats w lo A n cap bs) (hg : w.cell? ⟨g, 0, none⟩ = some (.int .i64 id)) :
    Calls Try.prog 55 #[.slice A n cap, .func (.func 56) #[] #[.pointer (some ⟨g, 0, none⟩)]] w fun e w' => e = .returned (.bool (overB bs id)) ∧ w.grownBy w' none := by
  go_enter Try.func55, Try.ntmps55
  go_wp2_with fail
  refine (c_liveIndex lo A n cap g id bs _ h hg).mono ?_
  rintro e w1 ⟨r, rfl, hr, hg1⟩
  have Hr := Lib.hid hr
  clear hr
  by_cases hr0 : 0 ≤ r
  · go_wp2
    go_ret
    exact ⟨ret_bool (by rw [← Hr.out, decide_eq_true hr0]), hg1⟩
  · have hr1 : r < 0 := by omega
    go_wp2
    go_ret
    exact ⟨ret_bool (by rw [← Hr.out]), hg1⟩

theorem live_take {bs cs : List Bt} {k : Nat} {b : Bt} (h : bs[k]? = some b) : (bs.take (k + 1)).filter (fun b => !overB cs b.1) = (bs.take k).filter (fun b => !overB cs b.1) ++ (if overB cs b.1 then [] else [b]) := by
  rw [take_succ_of h, List.filter_append]
  congr 1
  cases h1 : overB cs b.1 <;> simp [h1]

theorem batchInfo : (Try.prog.info? 34).map (fun i => (i.zero, i.size, i.bytes)) = some (some (.agg #[.int .i64 0, .int .i64 0, .slice none 0 0]), 3, 40) := by kernel_rfl
theorem batchE : Elem Try.prog 23 34 3 40 (.agg #[.int .i64 0, .int .i64 0, .slice none 0 0]) := ⟨Try.underlying23, info_parts batchInfo, rfl, by omega⟩

set_option maxHeartbeats 2000000 in
theorem c_liveBatches (lo : Nat) (A : Option Addr) (n cap : Nat) (bs : List Bt) (w : World) (h : Bats w lo A n cap bs) (hlo : lo ≤ w.heap.size) (hn : n ≤ 2000000) :
    Calls Try.prog 40 #[.slice A n cap] w fun e w' => ∃ B m c, e = .returned (.slice B m c) ∧ w.grownBy w' none ∧ Bats w' lo B m c (live bs) := by
  have hlc := h.le
  have hcm := h.max
  have hxl := Lib.hid h.len
  go_enter Try.func40, Try.ntmps40
  go_wp2
  go_loopw [3, 8] (fun v i wr => ∃ (k j : Nat) (B : Option Addr) (c : Nat) (zs : List Bt) (hs : List Hd), k ≤ n ∧ j ≤ k ∧ i = .int .i64 k ∧ v = .slice B j c ∧ w.grownBy wr none ∧ ListRecs btRec 34 wr lo w.heap.size B j c zs hs ∧ Hid (zs = (bs.take k).filter (fun b => !overB bs b.1))) (fun _ i _ => n - (intOf i).toNat)
  case atStart => exact ⟨0, 0, _, _, [], [], Nat.zero_le _, Nat.le_refl _, rfl, rfl, gb_refl _ _, ListRecs.nil _ _ _ _ _, Lib.hid rfl⟩
  case round =>
    obtain ⟨k, j, B, c, zs, hs, hk, hjk, rfl, rfl, hG, hL, hz⟩ := hrel
    by_cases hlt : k < n
    · obtain ⟨b, off, id, over, ps, A', c', rfl, hp, hps0, n0, n1, n2⟩ := Bats.at_ h hlt
      have hps := hps0.keep0 hG
      have m0 := gb_cell hG n0 (by simp)
      have m1 := gb_cell hG n1 (by simp)
      have m2 := gb_cell hG n2 (by simp)
      clear n0 n1 n2
      have hk' : (k : Int) < (n : Int) := by omega
      have hk0 : (0 : Int) ≤ (k : Int) := by omega
      obtain ⟨N, hN⟩ : ∃ N, ps.length = N := ⟨_, rfl⟩
      have HN := Lib.hid hN
      rw [hN] at m2
      clear hN
      have hG1 := gb_alloc (gb_refl wr none) (.cells #[.int .i64 id, .int .i64 over, .slice A' N c'] 34)
      have hBk := Blk.new wr 34 #[.int .i64 id, .int .i64 over, .slice A' N c']
      have hwz := hG.size
      go_wp2_with fail
      refine (c_liveContains lo _ n cap wr.heap.size id bs _ (Recs.keep0 h (gb_trans hG hG1)) (hBk.cell 0)).mono ?_
      rintro e w1 ⟨rfl, hg1⟩
      have hB1 := hBk.grown hg1 (by simp)
      have c0 := hB1.cell 0
      have c1 := hB1.cell 1
      have c2 := hB1.cell 2
      have hL1 := hL.keep (gb_trans hG1 hg1)
      have hps1 := hps.keep0 (gb_trans hG1 hg1)
      have hGw := gb_trans hG (gb_trans hG1 hg1)
      have hwz1 := hGw.size
      clear hBk hB1 hL hps
      obtain ⟨O, hO⟩ : ∃ O, overB bs id = O := ⟨_, rfl⟩
      have HO := Lib.hid hO
      rw [hO]
      clear hO
      cases O with
      | true =>
        go_wp2
        go_roundw
        case rel => exact ⟨k + 1, j, B, c, zs, hs, by omega, by omega, by go_num, rfl, hGw, hL1, Lib.hid (by rw [live_take hp.out, HO.out, if_pos rfl, List.append_nil]; exact hz.out)⟩
        case measure => simp [intOf]; omega
      | false =>
        go_wp2_with (at_builtin; refine wpList_app batchE rfl _ _ rfl w.heap.size j _ _ rfl hL1.row [_, _, _] rfl rfl (by simp [Value.oneCell']) (by omega) (by omega) hwz1 ?_; intro B' d' w3 hown3 hb3 hg3 hat3)
        have hL3 := hL1.push (x := (id, over, ps)) (d := (A', c')) (by rw [show btRec.cells ((id, over, ps), (A', c')) = [.int .i64 id, .int .i64 over, .slice A' N c'] from by rw [← HN.out]; rfl]; exact hown3) hg3 hat3 hps1 (apart_below (R := btRec) (L' := 0) hL1.row hps0 (Nat.le_refl _))
        go_roundw
        case rel => exact ⟨k + 1, j + 1, B', d', _, _, by omega, by omega, by go_num, rfl, gb_of_below ((gb_below hGw).trans hb3) none, hL3, Lib.hid (by rw [live_take hp.out, HO.out, hz.out]; simp)⟩
        case measure => simp [intOf]; omega
    · obtain rfl : k = n := by omega
      have hfin := hL.recs (Nat.le_trans hlo (Nat.le_refl _))
      have he : zs = live bs := by
        have := hz.out
        rwa [List.take_of_length_le (by rw [hxl.out]; exact Nat.le_refl _)] at this
      rw [he] at hfin
      clear he
      go_wp2
      go_ret
      exact ⟨_, _, _, rfl, hG, hfin⟩
end Go.Proofs.Ytdhkhlemdlibfaa
