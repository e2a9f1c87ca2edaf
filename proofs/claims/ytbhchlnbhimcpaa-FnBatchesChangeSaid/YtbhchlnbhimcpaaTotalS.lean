/-
  BatchesTotal of the reference.
-/
import Derived.Test.YtbhchlnbhimcpaaBatchesLive
import Derived.Test.YtbhchlnbhimcpaaPilesOf
import Derived.Test.YtbhchlnbhimcpaaKnownTail
namespace Go.Proofs.Ytbhchlnbhimcpaa
open Go.RowKit
set_option linter.unusedVariables false

/-- The piles of the live ones among cs. -/
def liveOf (bs cs : List Bt) : List Pl := (cs.filter fun b => !overB bs b.1).flatMap (·.2.2)
def liveEs (bs : List Bt) : List Pl := liveOf bs bs
def totOK (bs : List Bt) : Bool := batchesOK bs && pilesOK (canon (liveEs bs))
def totRes (bs : List Bt) : List Pl := if totOK bs then canon (liveEs bs) else []
theorem liveOf_step {bs cs : List Bt} {k : Nat} {b : Bt} (h : cs[k]? = some b) : liveOf bs (cs.take (k + 1)) = liveOf bs (cs.take k) ++ (if overB bs b.1 then [] else b.2.2) := by
  unfold liveOf
  rw [live_take h, List.flatMap_append]
  congr 1
  split <;> simp
theorem liveOf_mem {bs cs : List Bt} {p : Pl} (h : p ∈ liveOf bs cs) : ∃ b ∈ cs, p ∈ b.2.2 := by
  unfold liveOf at h
  rw [List.mem_flatMap] at h
  obtain ⟨b, hb, hp⟩ := h
  exact ⟨b, (List.mem_filter.1 hb).1, hp⟩
theorem canon_snoc (acc es : List Pl) (e : Pl) : canonFrom acc (es ++ [e]) = put (canonFrom acc es) e.1 e.2 := by
  rw [canonFrom_append, canonFrom_cons, canonFrom_nil]

attribute [local go_sem] flowAct flowOp_def flowUpon
set_option maxHeartbeats 2000000 in
theorem c_l43Total (lo : Nat) (A : Option Addr) (n cap : Nat) (bs : List Bt) (w : World) (h : Bats w lo A n cap bs) (hlo : lo ≤ w.heap.size) (hn : n ≤ 1100000) (hp : ∀ b ∈ bs, b.2.2.length ≤ 1100000) :
    Calls Try.prog 68 #[.slice A n cap] w (PilesRes (canon (liveEs bs)) w) := by
  have hlc := h.le
  have hcm := h.max
  have hxl := Lib.hid h.len
  have Hp := Lib.hid hp
  clear hp
  go_enter Try.func68, Try.ntmps68
  go_wp2
  go_loopw [3, 4] (fun v i wr => ∃ (k : Nat) (B : Option Addr) (c m : Nat) (acc : List Pl), k ≤ n ∧ i = .int .i64 k ∧ v = .slice B m c ∧ w.grownBy wr none ∧ wr.ownsRow w.heap.size 73 2 (.slice B m c) m (cellsOf plCells acc) ∧ m ≤ 1100000 * k ∧ Hid (acc.length = m) ∧ Hid (acc = canon (liveOf bs (bs.take k)))) (fun _ i _ => n - (intOf i).toNat)
  case atStart => exact ⟨0, _, _, 0, [], Nat.zero_le _, rfl, rfl, gb_alloc (gb_refl _ _) _, own_empty _ _ _ _ (Nat.le_refl _), by omega, Lib.hid rfl, Lib.hid rfl⟩
  case round =>
    obtain ⟨k, B, c, m, acc, hk, rfl, rfl, hG, hown, hml, hal, hacc⟩ := hrel
    rename World => wr
    by_cases hlt : k < n
    · obtain ⟨b, off, id, over, ps, A', c', rfl, hp, hps, m0, m1, m2⟩ := Bats.at_ (Recs.keep0 h hG) hlt
      have hk' : (k : Int) < (n : Int) := by omega
      have hk0 : (0 : Int) ≤ (k : Int) := by omega
      clear m1
      have hpl := Lib.hid hps.len
      have hpn : ps.length ≤ 1100000 := Hp.out _ (List.mem_of_getElem? hp.out)
      obtain ⟨N, hN⟩ : ∃ N, ps.length = N := ⟨_, rfl⟩
      have HN := Lib.hid hN
      rw [hN] at hps m2 hpn
      obtain ⟨O, hO⟩ : ∃ O, overB bs id = O := ⟨_, rfl⟩
      have HO := Lib.hid hO
      clear hN hO
      have hlc' := hps.1
      have hcm' := Sl.max hps
      go_wp2
      go_loopw [3, 5] (fun v i x => ∃ (j : Nat) (B : Option Addr) (c m' : Nat) (acc' : List Pl), j ≤ N ∧ i = .int .i64 j ∧ v = .slice B m' c ∧ wr.grownBy x none ∧ x.ownsRow w.heap.size 73 2 (.slice B m' c) m' (cellsOf plCells acc') ∧ m' ≤ 1100000 * k + j ∧ Hid (acc'.length = m') ∧ Hid (acc' = canonFrom acc (ps.take j)) ∧ Hid (O = false ∨ j = 0)) (fun _ i _ => N - (intOf i).toNat)
      case atStart => exact ⟨0, B, c, m, acc, Nat.zero_le _, rfl, rfl, gb_refl _ _, hown, by omega, hal, Lib.hid rfl, Lib.hid (.inr rfl)⟩
      case round =>
        clear hown
        obtain ⟨j, B, c, m', acc', hj, rfl, rfl, hGx, hown, hml', hal', hacc', hOj⟩ := hrel
        rename World => x
        have n0 := gb_cell hGx m0 (by simp)
        have n2 := gb_cell hGx m2 (by simp)
        have hG' := gb_trans hG hGx
        by_cases hjN : j < N
        · have hj' : (j : Int) < (N : Int) := by omega
          have hj0 : (0 : Int) ≤ (j : Int) := by omega
          go_wp2_with fail
          refine (c_l43Over lo _ n cap bs id _ (Recs.keep0 h hG')).mono ?_
          rintro e w2 ⟨rfl, rfl⟩
          rw [HO.out]
          cases O with
          | true =>
            have hst : Hid (canonFrom acc (ps.take j) = canon (liveOf bs (bs.take (k + 1)))) := Lib.hid (by
              rcases hOj.out with h1 | h1
              · cases h1
              · subst h1; rw [liveOf_step hp.out, HO.out, if_pos rfl, List.append_nil, ← hacc.out]; rfl)
            go_wp2
            go_roundw
            case rel => exact ⟨k + 1, B, c, m', acc', by omega, by go_num, rfl, hG', hown, by omega, hal', Lib.hid (by rw [hacc'.out, hst.out])⟩
            case measure => simp [intOf]; omega
          | false =>
            obtain ⟨b', off', ⟨s, q⟩, rfl, _, _, hz, p0, p1⟩ := Piles.at_ (hps.keep0 hGx) hjN
            have q0 := hps.1
            go_wp2_with fail
            refine wp_known_tail x [_, _, _, _, _, _, _, _, _, _, _, _, _, _, _, _, _, _, _] _ [.slice B m' c, .slice (some ⟨b, off, none⟩) n cap, .int .i64 k, .pointer (some ⟨b, off + k * 3, none⟩), .pointer (some ⟨b, off + k * 3 + 2, none⟩), .slice (some ⟨b', off', none⟩) N c', .int .i64 j, .pointer (some ⟨b', off' + j * 2, none⟩), .pointer (some ⟨b', off' + j * 2, none⟩), .string s,
              .slice (some ⟨b, off, none⟩) n cap, .int .i64 k, .pointer (some ⟨b, off + k * 3, none⟩), .pointer (some ⟨b, off + k * 3 + 2, none⟩), .slice (some ⟨b', off', none⟩) N c', .int .i64 j, .pointer (some ⟨b', off' + j * 2, none⟩), .pointer (some ⟨b', off' + j * 2 + 1, none⟩), .int .i64 q] rfl (gb_refl _ _) (by kernel_rfl) (by kernel_rfl) (by kernel_rfl) ?_ ?_
            · refine ⟨?_, ?_, ?_, ?_, ?_, ?_, ?_, ?_, ?_, ?_, ?_, ?_, ?_, ?_, ?_, ?_, ?_, ?_, ?_, trivial⟩
              all_goals
                intro nn u y hn hC hp
                simp [flowPreds, Region.binds, fKnown] at hp
                have y2 := gb_cell hC n2 (by simp)
                have y3 := gb_cell hC p0 (by simp)
                have y4 := gb_cell hC p1 (by simp)
                go_simp
              all_goals try exact ⟨gb_refl _ _, rfl⟩
            · intro u y hC hp'
              have e0 : u 0 = .slice B m' c := hp' 0 (by decide)
              have e9 : u 9 = .string s := hp' 9 (by decide)
              have e18 : u 18 = .int .i64 q := hp' 18 (by decide)
              have howny := own_below hown hC
              have hGy := gb_trans hG' hC
              go_simp
              go_wp2_with fail
              refine (c_l3Put w.heap.size B m' c acc' s q y (Sl.own howny) (by omega)).mono ?_
              rintro e w3 ⟨B3, c3, rfl, hg3, ho3⟩
              have ho := own_lo ho3 hGy.size
              have hpl3 := put_length acc' s q
              rw [hal'.out] at hpl3
              obtain ⟨M, hM⟩ : ∃ M, (put acc' s q).length = M := ⟨_, rfl⟩
              rw [hM] at ho hpl3
              rw [hM]
              have HM := Lib.hid hM
              clear hM ho3
              go_wp2
              go_roundw
              case rel => exact ⟨j + 1, B3, c3, M, put acc' s q, by omega, by go_num, rfl, gb_trans (gb_trans hGx hC) hg3, ho, by omega, HM, Lib.hid (by rw [take_succ_of hz.out, canon_snoc, hacc'.out]), Lib.hid (.inl trivial)⟩
              case measure => simp [intOf]; omega
        · obtain rfl : j = N := by omega
          go_wp2
          go_roundw
          case rel => exact ⟨k + 1, B, c, m', acc', by omega, by go_num, rfl, hG', hown, by omega, hal', Lib.hid (by
            rw [hacc'.out, List.take_of_length_le (by rw [HN.out]; exact Nat.le_refl _), hacc.out, liveOf_step hp.out]
            rcases hOj.out with h1 | h1
            · rw [HO.out, h1, if_neg (by simp)]
              show _ = canonFrom [] _
              rw [canonFrom_append]; rfl
            · have h2 : ps = [] := List.eq_nil_of_length_eq_zero (by rw [HN.out]; exact h1)
              rw [h2]; simp [canonFrom_nil])⟩
          case measure => simp [intOf]; omega
    · obtain rfl : k = n := by omega
      have hfin : Hid (acc = canon (liveEs bs)) := Lib.hid (by rw [hacc.out, List.take_of_length_le (by rw [hxl.out]; exact Nat.le_refl _)]; rfl)
      go_wp2
      go_ret
      exact ⟨B, c, by rw [← hfin.out, hal.out]; rfl, hG, by rw [← hfin.out, hal.out]; exact hown⟩

theorem liveEs_sizes {bs : List Bt} {M : Nat} (h : ∀ b ∈ bs, ∀ p ∈ b.2.2, p.1.size ≤ M) : ∀ p ∈ liveEs bs, p.1.size ≤ M := by
  intro p hp
  obtain ⟨b, hb, hpb⟩ := liveOf_mem hp
  exact h b hb p hpb

set_option maxHeartbeats 1000000 in
theorem c_spec_BatchesTotal (lo : Nat) (A : Option Addr) (n cap : Nat) (bs : List Bt) (w : World) (h : Bats w lo A n cap bs) (hlo : lo ≤ w.heap.size) (hn : n ≤ 1100000) (hp : ∀ b ∈ bs, b.2.2.length ≤ 1100000) (hs : ∀ b ∈ bs, ∀ p ∈ b.2.2, p.1.size ≤ 2000000) :
    Calls Try.prog 38 #[.slice A n cap] w (PilesOkRes (totRes bs) (totOK bs) w) := by
  have Hs := Lib.hid hs
  have hcz := Lib.hid (canon_sizes (liveEs_sizes hs))
  clear hs
  obtain ⟨V, hV⟩ : ∃ V, batchesOK bs = V := ⟨_, rfl⟩
  have HV := Lib.hid hV
  obtain ⟨O, hO⟩ : ∃ O, pilesOK (canon (liveEs bs)) = O := ⟨_, rfl⟩
  have HO := Lib.hid hO
  have hok : Hid (totOK bs = (V && O)) := Lib.hid (by rw [totOK, hV, hO])
  have hres : Hid (totRes bs = if (V && O) = true then canon (liveEs bs) else []) := Lib.hid (by rw [totRes, hok.out])
  have hcall := c_l43Total lo A n cap bs w h hlo hn hp
  have Hcall := Lib.hid hcall
  clear hcall hV hO hp
  obtain ⟨L, hL⟩ : ∃ L, (canon (liveEs bs)).length = L := ⟨_, rfl⟩
  have HL := Lib.hid hL
  clear hL
  go_enter Try.func38, Try.ntmps38
  go_wp2_with fail
  refine Hcall.out.mono ?_
  rintro e w1 ⟨B, c, rfl, hg1, ho1⟩
  rw [HL.out] at ho1
  rw [HL.out]
  have hI := Recs.keep0 h hg1
  go_wp2_with fail
  refine (c_spec_BatchesValid lo A n cap bs _ hI Hs.out).mono ?_
  rintro e w2 ⟨rfl, hg2⟩
  rw [HV.out]
  have hG2 := gb_trans hg1 hg2
  have ho2 := own_below ho1 hg2
  cases V with
  | false =>
    go_wp2
    go_ret2
    exact ⟨_, 0, by rw [hok.out, hres.out]; rfl, gb_alloc hG2 _, by rw [hres.out]; exact own_empty _ _ _ _ hG2.size⟩
  | true =>
    have hcall := c_spec_PilesValid _ B L c (canon (liveEs bs)) _ (Sl.own ho2) hcz.out
    rw [HO.out] at hcall
    go_wp2_with fail
    refine hcall.mono ?_
    rintro e w3 ⟨rfl, hg3⟩
    have hG3 := gb_trans hG2 hg3
    have ho3 := own_below ho2 hg3
    cases O with
    | false =>
      go_wp2
      go_ret2
      exact ⟨_, 0, by rw [hok.out, hres.out]; rfl, gb_alloc hG3 _, by rw [hres.out]; exact own_empty _ _ _ _ hG3.size⟩
    | true =>
      go_wp2
      go_ret2
      exact ⟨B, c, by rw [hok.out, hres.out]; simp [HL.out], hG3, by rw [hres.out]; simp only [Bool.and_self, if_true, HL.out]; exact ho3⟩
end Go.Proofs.Ytbhchlnbhimcpaa
