/-
  The walk of the law FnPrecinctsPart: precincts may be missing.
-/
import Derived.Test.YtifmljckmjnpfaaTwo
import Derived.Test.YtifmljckmjnpfaaPubLaw
import Derived.Test.YtifmljckmjnpfaaDrawPct
namespace Go.Proofs.Ytifmljckmjnpfaa.lawFnPrecinctsPart
open Go.RowKit
set_option linter.unusedVariables false

def partA (w3 : World) (lo n k b off cap : Nat) (fin us1 us2 : List Value) : Nat → Value → World → Prop
  | 0 => fun v x => ∃ c, RowF x w3.heap.size 35 2 fin v 0 c
  | 1 => fun v _ => v = .slice (some ⟨b, off, none⟩) n cap
  | 2 => fun v _ => v = .int .i64 (k : Int)
  | 3 => fun v _ => ∃ A c, v = .slice A k c ∧ Sl w3 lo 2 A k c us1
  | 4 => fun v x => ∃ c, RowF x w3.heap.size 35 2 fin v k c
  | 5 => fun v _ => v = .slice (some ⟨b, off, none⟩) n cap
  | 6 => fun v _ => v = .int .i64 (k : Int)
  | 7 => fun v _ => v = .int .i64 ((k : Int) + 1)
  | 8 => fun v _ => ∃ A c, v = .slice A (n - (k + 1)) c ∧ Sl w3 lo 2 A (n - (k + 1)) c us2
  | 9 => fun v x => ∃ c, RowF x w3.heap.size 35 2 fin v (n - 1) c
  | _ => fun v x => ∃ c, RowF x w3.heap.size 35 2 fin v (n - 1) c
theorem partA_kept {w3 : World} {lo n k b off cap : Nat} {fin us1 us2 : List Value} {x y : World} (h : KF w3.heap.size 35 2 fin x y) : ∀ i v, partA w3 lo n k b off cap fin us1 us2 i v x → partA w3 lo n k b off cap fin us1 us2 i v y := by
  intro i v hv
  unfold partA at *
  split at hv
  all_goals first | exact hv | (obtain ⟨c, hv⟩ := hv; exact ⟨c, hv.keep h⟩)
def partB (w3 : World) (lo n k b off cap : Nat) (fin us1 us2 : List Value) : Nat → Value → World → Prop
  | 0 => fun v x => ∃ c, RowF x w3.heap.size 35 2 fin v 0 c
  | 1 => fun v _ => v = .slice (some ⟨b, off, none⟩) n cap
  | 2 => fun v _ => v = .int .i64 (k : Int)
  | 3 => fun v _ => v = .int .i64 ((k : Int) + 1)
  | 4 => fun v _ => ∃ A c, v = .slice A (k + 1) c ∧ Sl w3 lo 2 A (k + 1) c us1
  | 5 => fun v x => ∃ c, RowF x w3.heap.size 35 2 fin v (k + 1) c
  | 6 => fun v _ => v = .slice (some ⟨b, off, none⟩) n cap
  | 7 => fun v _ => v = .int .i64 (k : Int)
  | 8 => fun v _ => ∃ A c, v = .slice A (n - k) c ∧ Sl w3 lo 2 A (n - k) c us2
  | 9 => fun v x => ∃ c, RowF x w3.heap.size 35 2 fin v (n + 1) c
  | _ => fun v x => ∃ c, RowF x w3.heap.size 35 2 fin v (n + 1) c
theorem partB_kept {w3 : World} {lo n k b off cap : Nat} {fin us1 us2 : List Value} {x y : World} (h : KF w3.heap.size 35 2 fin x y) : ∀ i v, partB w3 lo n k b off cap fin us1 us2 i v x → partB w3 lo n k b off cap fin us1 us2 i v y := by
  intro i v hv
  unfold partB at *
  split at hv
  all_goals first | exact hv | (obtain ⟨c, hv⟩ := hv; exact ⟨c, hv.keep h⟩)
theorem part_less {bs : List Pc} {k : Nat} (h : pctsOK bs = true) : pctsOK (bs.take k ++ bs.drop (k + 1)) = true := by
  rw [pctsOK_iff] at *
  obtain ⟨h1, h2, h3⟩ := h
  have hs : (bs.take k ++ bs.drop (k + 1)).Sublist bs := by
    have h4 : bs = bs.take k ++ bs.drop k := (List.take_append_drop k bs).symm
    conv => rhs; rw [h4]
    refine List.Sublist.append (List.Sublist.refl _) ?_
    rw [show bs.drop (k + 1) = (bs.drop k).drop 1 from by rw [List.drop_drop]]
    exact List.drop_sublist _ _
  exact ⟨fun p hp => h1 p (hs.subset hp), h2.sublist hs, Nat.le_trans hs.length_le h3⟩
theorem part_more {bs : List Pc} {k : Nat} (hk : k < bs.length) : pctsOK (bs.take (k + 1) ++ bs.drop k) = false := by
  rw [Bool.eq_false_iff]
  intro h
  rw [pctsOK_iff] at h
  have h2 := (List.pairwise_append.1 h.2.1).2.2
  have hx : bs[k]? = some bs[k] := List.getElem?_eq_getElem hk
  have h3 := h2 bs[k] (List.mem_iff_getElem?.2 ⟨k, by rw [List.getElem?_take, if_pos (by omega)]; exact hx⟩) bs[k] (List.mem_iff_getElem?.2 ⟨0, by rw [List.getElem?_drop]; exact hx⟩)
  exact absurd h3 (Int.lt_irrefl _)
theorem zip_part {α β : Type} (a : List α) (b : List β) (i j : Nat) (hl : b.length = a.length) : (a.zip b).take i ++ (a.zip b).drop j = (a.take i ++ a.drop j).zip (b.take i ++ b.drop j) := by
  rw [zip_take, zip_drop, List.zip_append (by rw [List.length_take, List.length_take, hl])]

attribute [local go_sem] flowAct flowOp_def flowUpon
set_option maxRecDepth 100000 in
set_option maxHeartbeats 8000000 in
theorem walk (a0 : Option Addr) (len0 cap0 : Nat) (a1 : Option Addr) (len1 cap1 : Nat) (w : World) (c0 : CodeArg w a0 len0 cap0) (c1 : CodeArg w a1 len1 cap1) :
    Calls Try.prog 3 #[.slice a0 len0 cap0, .slice a1 len1 cap1] w fun e w' => e = .returned (.bool true) ∧ Below w.heap.size w w' := by
  by_cases h0 : 1048576 < len0
  · go_enter Try.func3, Try.ntmps3
    go_wp2
    go_ret
    exact ⟨rfl, Below.refl _ _⟩
  by_cases h1 : 1048576 < len1
  · go_enter Try.func3, Try.ntmps3
    go_wp2
    go_ret
    exact ⟨rfl, Below.refl _ _⟩
  go_enter Try.func3, Try.ntmps3
  go_wp2_with fail
  refine (c_DrawPrecinctsValid _ _ _ _ c0).mono ?_
  rintro e w1 ⟨A, cap, bs, rfl, hb1, hl7, hsm, hg1⟩
  have Ht : Hid (∀ b ∈ bs, ∀ p ∈ b.2, p.1.size ≤ 2000000) := Lib.hid (fun b hb p hp => by have := (hsm b hb).2 p hp; omega)
  obtain ⟨n, hn⟩ : ∃ n, bs.length = n := ⟨_, rfl⟩
  have hxl := Lib.hid hn
  rw [hn] at hb1 hl7
  rw [hn]
  obtain ⟨V, hV⟩ : ∃ V, pctsOK bs = V := ⟨_, rfl⟩
  have HV := Lib.hid hV
  clear hn hV hsm c0
  have hVV : (V != V) = false := by simp
  have hVV2 : (V == V) = true := by simp
  go_wp2_with fail
  refine (c_impl_PrecinctsValid _ A n cap bs _ hb1 Ht.out).mono ?_
  rintro e w2 ⟨rfl, hg2⟩
  rw [HV.out]
  have hb2 := Recs.keep0 hb1 hg2
  have hG2 := gb_trans hg1 hg2
  go_wp2_with fail
  refine (c_spec_PrecinctsValid _ A n cap bs _ hb2 Ht.out).mono ?_
  rintro e w3 ⟨rfl, hg3⟩
  rw [HV.out]
  have hb3 := Recs.keep0 hb2 hg3
  have hG3 := gb_trans hG2 hg3
  clear hb1 hb2 hG2
  cases V with
  | false =>
    go_wp2
    go_ret
    exact ⟨rfl, gb_below hG3⟩
  | true =>
    by_cases hn0 : n = 0
    · subst hn0
      go_wp2
      go_ret
      exact ⟨rfl, gb_below hG3⟩
    have hnb : ((n : Int) == 0) = false := by simp; omega
    obtain ⟨k, hk⟩ : ∃ k, len1 % n = k := ⟨_, rfl⟩
    have hkn : k < n := by rw [← hk]; exact Nat.mod_lt _ (by omega)
    have hrem : (len1 : Int).tmod (n : Int) = (k : Int) := by rw [Int.tmod_eq_emod_of_nonneg (by omega), ← hk]; omega
    have hn0' : ¬ (n : Int) = 0 := by omega
    obtain ⟨hs, hH⟩ : ∃ hs : List Hd, PctsH w3 w.heap.size A n cap bs hs := hb3
    obtain ⟨hhl, hSl, hPl⟩ := hH
    have hlc := hSl.1
    have hcm := Sl.max hSl
    obtain ⟨b, off, rfl, _⟩ := hSl.2.2.2 (by omega)
    have hkc : (k : Int) ≤ (cap : Int) := by omega
    have hk1c : (k : Int) + 1 ≤ (cap : Int) := by omega
    have hk1n : (k : Int) + 1 ≤ (n : Int) := by omega
    have hkn' : (k : Int) ≤ (n : Int) := by omega
    have hk0 : (0 : Int) ≤ (k : Int) := by omega
    have hk10 : (0 : Int) ≤ (k : Int) + 1 := by omega
    have t1 : ((k : Int) + 1).toNat = k + 1 := by omega
    have hw1 : IntKind.i64.wrap ((k : Int) + 1) = (k : Int) + 1 := IntWalk.i64_in _ (by omega)
    have hzl : Hid ((bs.zip hs).length = n) := Lib.hid (by rw [List.length_zip, hhl, hxl.out]; simp)
    obtain ⟨zs, hzs⟩ : ∃ zs, bs.zip hs = zs := ⟨_, rfl⟩
    rw [hzs] at hSl hzl
    have Hzs := Lib.hid hzs
    have Hhl := Lib.hid hhl
    have HPl := Lib.hid hPl
    obtain ⟨finA, hfinA⟩ : ∃ f, zs.take k ++ zs.drop (k + 1) = f := ⟨_, rfl⟩
    obtain ⟨finB, hfinB⟩ : ∃ f, zs.take (k + 1) ++ zs.drop k = f := ⟨_, rfl⟩
    obtain ⟨usA1, husA1⟩ : ∃ u, cellsOf pcRec.cells (zs.take k) = u := ⟨_, rfl⟩
    obtain ⟨usA2, husA2⟩ : ∃ u, cellsOf pcRec.cells (zs.drop (k + 1)) = u := ⟨_, rfl⟩
    obtain ⟨usB1, husB1⟩ : ∃ u, cellsOf pcRec.cells (zs.take (k + 1)) = u := ⟨_, rfl⟩
    obtain ⟨usB2, husB2⟩ : ∃ u, cellsOf pcRec.cells (zs.drop k) = u := ⟨_, rfl⟩
    have hone : ∀ qs : List (Pc × Hd), ∀ u ∈ cellsOf pcRec.cells qs, u.oneCell' = true := fun qs => recs_one (R := pcRec) (fun x u hu => by simp [pcRec] at hu; rw [hu]; rfl)
    have h1A1 : Hid (∀ u ∈ usA1, u.oneCell' = true) := Lib.hid (by rw [← husA1]; exact hone _)
    have h1A2 : Hid (∀ u ∈ usA2, u.oneCell' = true) := Lib.hid (by rw [← husA2]; exact hone _)
    have h1B1 : Hid (∀ u ∈ usB1, u.oneCell' = true) := Lib.hid (by rw [← husB1]; exact hone _)
    have h1B2 : Hid (∀ u ∈ usB2, u.oneCell' = true) := Lib.hid (by rw [← husB2]; exact hone _)
    have hcl : ∀ qs : List (Pc × Hd), (cellsOf pcRec.cells qs).length = qs.length * 2 := fun qs => cellsOf_len pcRec.cells_len (xs := qs)
    have hfA1 : Hid (∀ j, j < k * 2 → (cellsOf pcRec.cells finA)[0 * 2 + j]? = usA1[j]?) := Lib.hid (fun j hj => by
      rw [← hfinA, ← husA1, Nat.zero_mul, Nat.zero_add, cellsOf_append, List.getElem?_append_left (by rw [hcl, List.length_take, hzl.out]; omega)])
    have hfA2 : Hid (∀ j, j < (n - (k + 1)) * 2 → (cellsOf pcRec.cells finA)[k * 2 + j]? = usA2[j]?) := Lib.hid (fun j hj => by
      have e1 : (cellsOf pcRec.cells (zs.take k)).length = k * 2 := by rw [hcl, List.length_take, hzl.out, Nat.min_eq_left (by omega)]
      rw [← hfinA, ← husA2, cellsOf_append, List.getElem?_append_right (by omega), e1, show k * 2 + j - k * 2 = j from by omega])
    have hfB1 : Hid (∀ j, j < (k + 1) * 2 → (cellsOf pcRec.cells finB)[0 * 2 + j]? = usB1[j]?) := Lib.hid (fun j hj => by
      rw [← hfinB, ← husB1, Nat.zero_mul, Nat.zero_add, cellsOf_append, List.getElem?_append_left (by rw [hcl, List.length_take, hzl.out]; omega)])
    have hfB2 : Hid (∀ j, j < (n - k) * 2 → (cellsOf pcRec.cells finB)[(k + 1) * 2 + j]? = usB2[j]?) := Lib.hid (fun j hj => by
      have e1 : (cellsOf pcRec.cells (zs.take (k + 1))).length = (k + 1) * 2 := by rw [hcl, List.length_take, hzl.out, Nat.min_eq_left (by omega)]
      rw [← hfinB, ← husB2, cellsOf_append, List.getElem?_append_right (by omega), e1, show (k + 1) * 2 + j - (k + 1) * 2 = j from by omega])
    have hsA1 : Hid (Sl w3 w.heap.size 2 (some ⟨b, off, none⟩) k cap usA1) := Lib.hid (by rw [← husA1, ← cellsOf_take pcRec.cells_len]; exact hSl.take (by omega))
    have hsA2 : Hid (Sl w3 w.heap.size 2 (if cap = k + 1 then some ⟨b, off, none⟩ else some ⟨b, off + (k + 1) * 2, none⟩) (n - (k + 1)) (cap - (k + 1)) usA2) := Lib.hid (by
      rw [← husA2, ← cellsOf_drop pcRec.cells_len]
      have := hSl.drop (k := k + 1) (by omega)
      simp only [Option.map_some, add_off] at this
      exact this)
    have hsB1 : Hid (Sl w3 w.heap.size 2 (some ⟨b, off, none⟩) (k + 1) cap usB1) := Lib.hid (by rw [← husB1, ← cellsOf_take pcRec.cells_len]; exact hSl.take (by omega))
    have hsB2' : Hid (Sl w3 w.heap.size 2 (if cap = k then some ⟨b, off, none⟩ else some ⟨b, off + k * 2, none⟩) (n - k) (cap - k) usB2) := Lib.hid (by
      rw [← husB2, ← cellsOf_drop pcRec.cells_len]
      have := hSl.drop (k := k) (by omega)
      simp only [Option.map_some, add_off] at this
      exact this)
    have Hend : Hid (∀ (i j : Nat) (y : World) (gA c M : Nat) (L : Nat), i ≤ n → j ≤ n → M = i + (n - j) → w3.grownBy y none → w.heap.size ≤ L → y.ownsRow L 35 2 (.slice (some ⟨gA, 0, none⟩) M c) M (cellsOf pcRec.cells (zs.take i ++ zs.drop j)) → Pcts y w.heap.size (some ⟨gA, 0, none⟩) M c (bs.take i ++ bs.drop j)) := Lib.hid (fun i j y gA c M L hi hj hM hg hL ho => by
      refine ⟨hs.take i ++ hs.drop j, by simp [hhl], ?_, fun q x d hx hd => ?_⟩
      · rw [← hzs, zip_part _ _ _ _ hhl] at ho
        exact (Sl.own ho).mono hL
      · have hboth : ∃ p : Nat, bs[p]? = some x ∧ hs[p]? = some d := by
          by_cases hq : q < (bs.take i).length
          · rw [List.getElem?_append_left hq, List.getElem?_take] at hx
            rw [List.getElem?_append_left (by rw [List.length_take, hhl, ← List.length_take]; exact hq), List.getElem?_take] at hd
            split at hx
            · rename_i hqi
              rw [if_pos hqi] at hd
              exact ⟨q, hx, hd⟩
            · cases hx
          · rw [List.getElem?_append_right (by omega), List.getElem?_drop] at hx
            rw [List.getElem?_append_right (by rw [List.length_take, hhl, ← List.length_take]; omega), List.getElem?_drop, List.length_take, hhl, ← List.length_take] at hd
            exact ⟨_, hx, hd⟩
        obtain ⟨p, hp1, hp2⟩ := hboth
        exact Piles.keep0 (HPl.out p x d hp1 hp2) hg)
    have HfA := Lib.hid hfinA
    have HfB := Lib.hid hfinB
    have hxA := Lib.hid (part_less (k := k) HV.out)
    have hxB := Lib.hid (part_more (bs := bs) (k := k) (by rw [hxl.out]; exact hkn))
    have hmA : ∀ x ∈ bs.take k ++ bs.drop (k + 1), x ∈ bs := fun x hx => by
      rcases List.mem_append.1 hx with hx | hx
      · exact List.take_subset _ _ hx
      · exact List.drop_subset _ _ hx
    have hmB : ∀ x ∈ bs.take (k + 1) ++ bs.drop k, x ∈ bs := fun x hx => by
      rcases List.mem_append.1 hx with hx | hx
      · exact List.take_subset _ _ hx
      · exact List.drop_subset _ _ hx
    have HtA := Lib.hid (fun b hb => Ht.out b (hmA b hb))
    have HtB := Lib.hid (fun b hb => Ht.out b (hmB b hb))
    clear hmA hmB hone hcl hfinA hfinB husA1 husA2 husB1 husB2 hSl hPl hhl hzs hk
    go_wp2_with fail
    refine wp_flow (by kernel_rfl) (by kernel_rfl) (fun _ zx => Below w3.heap.size w3 zx ∧ w3.heap.size ≤ zx.heap.size) (fun _ zx zy => KF w3.heap.size 35 2 (cellsOf pcRec.cells finA) zx zy) (partA w3 w.heap.size n k b off cap (cellsOf pcRec.cells finA) usA1 usA2) ⟨(Below.refl _ _).drew, Nat.le_refl _⟩ (fun i zx zy hT hC => ⟨hC.1.trans hT.1, Nat.le_trans hC.2 hT.1.size⟩) (fun i zx zy hT _ => partA_kept hT) ?_ ?_
    · refine ⟨fun i u zz hn hC hp => ?_, fun i u zz hn hC hp => ?_, fun i u zz hn hC hp => ?_, fun i u zz hn hC hp => ?_, fun i u zz hn hC hp => ?_, fun i u zz hn hC hp => ?_, fun i u zz hn hC hp => ?_, fun i u zz hn hC hp => ?_, fun i u zz hn hC hp => ?_, fun i u zz hn hC hp => ?_, fun i u zz hn hC hp => ?_, trivial⟩
      · clear hp
        go_simp
        exact ⟨KF.of_gb (gb_alloc (gb_refl _ _) _) hC.2, 0, RowF.empty _ hC.2⟩
      · clear hp
        go_simp
        exact ⟨KF.of_gb (gb_refl _ _) hC.2, rfl⟩
      · clear hp
        go_simp
        exact ⟨KF.of_gb (gb_refl _ _) hC.2, rfl⟩
      · have e1 : u 1 = .slice (some ⟨b, off, none⟩) n cap := hp 1 (by decide)
        have e2 : u 2 = .int .i64 (k : Int) := hp 2 (by decide)
        clear hp
        go_simp
        exact ⟨KF.of_gb (gb_refl _ _) hC.2, _, _, rfl, hsA1.out⟩
      · obtain ⟨cR, hR⟩ := (show ∃ c, RowF zz _ _ _ _ (u 0) 0 c from hp 0 (by decide))
        obtain ⟨A1, c1, e3, h3⟩ := (show ∃ A c, u 3 = .slice A k c ∧ Sl w3 w.heap.size 2 A k c usA1 from hp 3 (by decide))
        have h3x := h3.keep0 (gb_of_below hC.1 none)
        obtain ⟨v', c', y, hr, hK, hF⟩ := chain_app pctE hR hC.2 (A := A1) (m := k) (c0 := c1) (us := usA1) (fun e => h3x.none_zero e) h3x.2.2.1 (fun a e => h3x.addr e) h1A1.out hfA1.out (by omega) (by omega) 23
        rw [← e3] at hr
        rw [show 0 + k = k from by omega] at hF
        refine flowOp_chain (by go_simp) (.tmp 45) (.tmp 48) rfl (by go_simp) (by go_simp) hr ⟨hK, c', hF⟩
      · clear hp
        go_simp
        exact ⟨KF.of_gb (gb_refl _ _) hC.2, rfl⟩
      · clear hp
        go_simp
        exact ⟨KF.of_gb (gb_refl _ _) hC.2, rfl⟩
      · have e1 : u 6 = .int .i64 (k : Int) := hp 6 (by decide)
        clear hp
        go_simp
        exact ⟨KF.of_gb (gb_refl _ _) hC.2, rfl⟩
      · have e1 : u 5 = .slice (some ⟨b, off, none⟩) n cap := hp 5 (by decide)
        have e2 : u 7 = .int .i64 ((k : Int) + 1) := hp 7 (by decide)
        clear hp
        go_simp
        exact ⟨KF.of_gb (gb_refl _ _) hC.2, _, _, rfl, hsA2.out⟩
      · obtain ⟨cR, hR⟩ := (show ∃ c, RowF zz _ _ _ _ (u 4) k c from hp 4 (by decide))
        obtain ⟨A1, c1, e3, h3⟩ := (show ∃ A c, u 8 = .slice A (n - (k + 1)) c ∧ Sl w3 w.heap.size 2 A (n - (k + 1)) c usA2 from hp 8 (by decide))
        have h3x := h3.keep0 (gb_of_below hC.1 none)
        obtain ⟨v', c', y, hr, hK, hF⟩ := chain_app pctE hR hC.2 (A := A1) (m := (n - (k + 1))) (c0 := c1) (us := usA2) (fun e => h3x.none_zero e) h3x.2.2.1 (fun a e => h3x.addr e) h1A2.out hfA2.out (by omega) (by omega) 23
        rw [← e3] at hr
        rw [show k + (n - (k + 1)) = (n - 1) from by omega] at hF
        refine flowOp_chain (by go_simp) (.tmp 49) (.tmp 53) rfl (by go_simp) (by go_simp) hr ⟨hK, c', hF⟩
      · obtain ⟨cR, hR⟩ := (show ∃ c, RowF zz _ _ _ _ (u 9) (n - 1) c from hp 9 (by decide))
        clear hp
        go_simp
        exact ⟨KF.of_gb (gb_refl _ _) hC.2, cR, hR⟩
    · intro iA uA x hnA hC hp
      obtain ⟨cA, hR⟩ := (show ∃ c, RowF x w3.heap.size 35 2 (cellsOf pcRec.cells finA) (uA 10) (n - 1) c from hp 10 (by decide))
      obtain ⟨gA, e10, ho⟩ := hR.own (by rw [← HfA.out, cellsOf_len pcRec.cells_len, List.length_append, List.length_take, List.length_drop, hzl.out]; show _ * 2 = _; congr 1; omega)
      have hgx := gb_of_below hC.1 none
      have hzx := hC.2
      have hGx := gb_trans hG3 hgx
      rw [← HfA.out] at ho
      have hPA := Hend.out k (k + 1) x gA cA (n - 1) _ (by omega) (by omega) (by omega) hgx hG3.size ho
      have hsB1x := Lib.hid (Sl.keep0 hsB1.out hgx)
      have hsB2x := Lib.hid (Sl.keep0 hsB2'.out hgx)
      have HPA := Lib.hid hPA
      clear hp hR hC hPA ho
      go_simp
      go_wp2_with fail
      clear hsA1 hsA2
      have hsB1 := hsB1x
      have hsB2 := hsB2x
      refine wp_flow (by kernel_rfl) (by kernel_rfl) (fun _ zx => Below x.heap.size x zx ∧ x.heap.size ≤ zx.heap.size) (fun _ zx zy => KF x.heap.size 35 2 (cellsOf pcRec.cells finB) zx zy) (partB x w.heap.size n k b off cap (cellsOf pcRec.cells finB) usB1 usB2) ⟨(Below.refl _ _).drew, Nat.le_refl _⟩ (fun i zx zy hT hC => ⟨hC.1.trans hT.1, Nat.le_trans hC.2 hT.1.size⟩) (fun i zx zy hT _ => partB_kept hT) ?_ ?_
      · refine ⟨fun i u zz hn hC hp => ?_, fun i u zz hn hC hp => ?_, fun i u zz hn hC hp => ?_, fun i u zz hn hC hp => ?_, fun i u zz hn hC hp => ?_, fun i u zz hn hC hp => ?_, fun i u zz hn hC hp => ?_, fun i u zz hn hC hp => ?_, fun i u zz hn hC hp => ?_, fun i u zz hn hC hp => ?_, fun i u zz hn hC hp => ?_, trivial⟩
        · clear hp
          go_simp
          exact ⟨KF.of_gb (gb_alloc (gb_refl _ _) _) hC.2, 0, RowF.empty _ hC.2⟩
        · clear hp
          go_simp
          exact ⟨KF.of_gb (gb_refl _ _) hC.2, rfl⟩
        · clear hp
          go_simp
          exact ⟨KF.of_gb (gb_refl _ _) hC.2, rfl⟩
        · have e1 : u 2 = .int .i64 (k : Int) := hp 2 (by decide)
          clear hp
          go_simp
          exact ⟨KF.of_gb (gb_refl _ _) hC.2, rfl⟩
        · have e1 : u 1 = .slice (some ⟨b, off, none⟩) n cap := hp 1 (by decide)
          have e2 : u 3 = .int .i64 ((k : Int) + 1) := hp 3 (by decide)
          clear hp
          go_simp
          exact ⟨KF.of_gb (gb_refl _ _) hC.2, _, _, rfl, hsB1.out⟩
        · obtain ⟨cR, hR⟩ := (show ∃ c, RowF zz _ _ _ _ (u 0) 0 c from hp 0 (by decide))
          obtain ⟨A1, c1, e3, h3⟩ := (show ∃ A c, u 4 = .slice A (k + 1) c ∧ Sl x w.heap.size 2 A (k + 1) c usB1 from hp 4 (by decide))
          have h3x := h3.keep0 (gb_of_below hC.1 none)
          obtain ⟨v', c', y, hr, hK, hF⟩ := chain_app pctE hR hC.2 (A := A1) (m := (k + 1)) (c0 := c1) (us := usB1) (fun e => h3x.none_zero e) h3x.2.2.1 (fun a e => h3x.addr e) h1B1.out hfB1.out (by omega) (by omega) 23
          rw [← e3] at hr
          rw [show 0 + (k + 1) = (k + 1) from by omega] at hF
          refine flowOp_chain (by go_simp) (.tmp 55) (.tmp 59) rfl (by go_simp) (by go_simp) hr ⟨hK, c', hF⟩
        · clear hp
          go_simp
          exact ⟨KF.of_gb (gb_refl _ _) hC.2, rfl⟩
        · clear hp
          go_simp
          exact ⟨KF.of_gb (gb_refl _ _) hC.2, rfl⟩
        · have e1 : u 6 = .slice (some ⟨b, off, none⟩) n cap := hp 6 (by decide)
          have e2 : u 7 = .int .i64 (k : Int) := hp 7 (by decide)
          clear hp
          go_simp
          exact ⟨KF.of_gb (gb_refl _ _) hC.2, _, _, rfl, hsB2.out⟩
        · obtain ⟨cR, hR⟩ := (show ∃ c, RowF zz _ _ _ _ (u 5) (k + 1) c from hp 5 (by decide))
          obtain ⟨A1, c1, e3, h3⟩ := (show ∃ A c, u 8 = .slice A (n - k) c ∧ Sl x w.heap.size 2 A (n - k) c usB2 from hp 8 (by decide))
          have h3x := h3.keep0 (gb_of_below hC.1 none)
          obtain ⟨v', c', y, hr, hK, hF⟩ := chain_app pctE hR hC.2 (A := A1) (m := (n - k)) (c0 := c1) (us := usB2) (fun e => h3x.none_zero e) h3x.2.2.1 (fun a e => h3x.addr e) h1B2.out hfB2.out (by omega) (by omega) 23
          rw [← e3] at hr
          rw [show (k + 1) + (n - k) = (n + 1) from by omega] at hF
          refine flowOp_chain (by go_simp) (.tmp 60) (.tmp 63) rfl (by go_simp) (by go_simp) hr ⟨hK, c', hF⟩
        · obtain ⟨cR, hR⟩ := (show ∃ c, RowF zz _ _ _ _ (u 9) (n + 1) c from hp 9 (by decide))
          clear hp
          go_simp
          exact ⟨KF.of_gb (gb_refl _ _) hC.2, cR, hR⟩
      · intro iB uB y hnB hC hp
        obtain ⟨cB, hR⟩ := (show ∃ c, RowF y x.heap.size 35 2 (cellsOf pcRec.cells finB) (uB 10) (n + 1) c from hp 10 (by decide))
        obtain ⟨gB, e10', ho⟩ := hR.own (by rw [← HfB.out, cellsOf_len pcRec.cells_len, List.length_append, List.length_take, List.length_drop, hzl.out]; show _ * 2 = _; congr 1; omega)
        have hgy := gb_of_below hC.1 none
        have hGy := gb_trans hGx hgy
        rw [← HfB.out] at ho
        have hPB := Hend.out (k + 1) k y gB cB (n + 1) _ (by omega) (by omega) (by omega) (gb_trans hgx hgy) hGx.size ho
        have hPAy := Recs.keep0 HPA.out hgy
        clear hp hR hC ho
        go_simp
        go_wp2_with fail
        refine (c_impl_PrecinctsValid _ _ _ _ _ _ hPAy HtA.out).mono ?_
        rintro e w5 ⟨rfl, hg5⟩
        rw [hxA.out]
        go_wp2_with fail
        refine (c_impl_PrecinctsValid _ _ _ _ _ _ (Recs.keep0 hPB hg5) HtB.out).mono ?_
        rintro e w6 ⟨rfl, hg6⟩
        rw [hxB.out]
        go_wp2
        go_ret
        exact ⟨rfl, gb_below (gb_trans hGy (gb_trans hg5 hg6))⟩
end Go.Proofs.Ytifmljckmjnpfaa.lawFnPrecinctsPart
