/-
  l3Put of the reference: ballots are added to their pile.
  PilesAdd of the reference.
  pilesOf of the program: lists of piles together, by a map.
  PilesMerge of the program.
  PilesAdd of the program.
  First preferences: BallotFirst, pilesFit, firstCounts, FirstCounts of the program.
  Runoffs, plainly: when a round is the last one, who leaves, the rounds, the winner.
  How the laws copy and compare slices of integers and of strings.
  Rows of ints: read (IRows), and of the call's own (OwnRows).
-/
import Derived.Test.YtboobimpoddacaaGreatDoorPackA
import Derived.Test.YtboobimpoddacaaGreatDoorPiles
import Derived.Test.YtboobimpoddacaaGreatDoorKeys
import Derived.Maps.OwnSet
namespace Go.Proofs.YtboobimpoddacaaGreatDoor
open Go.RowKit
set_option linter.unusedVariables false

/-- Where a text stands, or would stand. -/
def putPos : List Pl → ByteArray → Nat
  | [], _ => 0
  | p :: ps, t => if sLt p.1 t then putPos ps t + 1 else 0
theorem putPos_le (ps : List Pl) (t : ByteArray) : putPos ps t ≤ ps.length := by
  induction ps with
  | nil => exact Nat.le_refl _
  | cons p ps ih => rw [putPos]; split <;> simp; omega
theorem putPos_of {ps : List Pl} {t : ByteArray} {k : Nat} (hk : k ≤ ps.length) (h : ∀ p ∈ ps.take k, sLt p.1 t = true) (hn : ∀ p, ps[k]? = some p → sLt p.1 t = false) : putPos ps t = k := by
  induction ps generalizing k with
  | nil => simp at hk; subst hk; rfl
  | cons p ps ih =>
    cases k with
    | zero =>
      have := hn p rfl
      rw [putPos, this]
      rfl
    | succ k =>
      have h1 := h p (by simp)
      rw [putPos, if_pos h1, ih (by simpa using hk) (fun q hq => h q (by simp [hq])) (fun q hq => hn q (by simpa using hq))]
theorem put_eq {ps : List Pl} {t : ByteArray} (m : Int) {p : Pl} (h : ps[putPos ps t]? = some p) (ht : p.1 = t) : put ps t m = ps.set (putPos ps t) (t, IntKind.i64.wrap (p.2 + m)) := by
  induction ps with
  | nil => simp at h
  | cons q ps ih =>
    rw [putPos] at h ⊢
    rw [put]
    split
    · rename_i h1
      rw [if_pos h1] at h
      rw [List.set_cons_succ, ih (by simpa using h)]
    · rename_i h1
      rw [if_neg h1] at h
      simp at h
      subst h
      rw [if_pos ht, List.set_cons_zero]
theorem put_ne {ps : List Pl} {t : ByteArray} (m : Int) (h : ∀ p, ps[putPos ps t]? = some p → p.1 ≠ t) : put ps t m = ps.take (putPos ps t) ++ (t, m) :: ps.drop (putPos ps t) := by
  induction ps with
  | nil => rfl
  | cons q ps ih =>
    rw [putPos] at h ⊢
    rw [put]
    split
    · rename_i h1
      rw [if_pos h1] at h
      rw [ih (fun p hp => h p (by simpa using hp))]
      rfl
    · rename_i h1
      rw [if_neg h1] at h
      rw [if_neg (h q rfl)]
      rfl

theorem pileInfo : (Tryz.prog.info? 65).map (fun i => (i.zero, i.size, i.bytes)) = some (some (.agg #[.string ⟨#[]⟩, .int .i64 0]), 2, 24) := by kernel_rfl
theorem pileE : Elem Tryz.prog 32 65 2 24 (.agg #[.string ⟨#[]⟩, .int .i64 0]) := ⟨Tryz.underlying32, info_parts pileInfo, rfl, by omega⟩
theorem plCells_one {ps : List Pl} : ∀ u ∈ cellsOf plCells ps, u.oneCell' = true := by
  intro u hu
  unfold cellsOf at hu
  rw [List.mem_flatMap] at hu
  obtain ⟨p, _, hp⟩ := hu
  simp [plCells] at hp
  rcases hp with rfl | rfl <;> rfl

theorem own_addr2 {w : World} {lo e size n c : Nat} {A : Option Addr} {xs : List Value} (h : w.ownsRow lo e size (.slice A n c) n xs) (hn : 0 < n) : ∃ g, A = some ⟨g, 0, none⟩ ∧ lo ≤ g ∧ g < w.heap.size := by
  rcases h.2 with ⟨h1, h2⟩ | ⟨g, cap, cur, h1, hg, hh, _⟩
  · omega
  · injection h1 with h1
    exact ⟨g, h1, hg, Blk.lt hh⟩
theorem own_pile {w : World} {lo e n c k g : Nat} {A : Option Addr} {ps : List Pl} {p : Pl} (h : w.ownsRow lo e 2 (.slice A n c) n (cellsOf plCells ps)) (hA : A = some ⟨g, 0, none⟩) (hp : ps[k]? = some p) (hk : k < n) (j : Nat) (hj : j < 2) : w.cell? ⟨g, k * 2 + j, none⟩ = (plCells p)[j]? := by
  subst hA
  rw [h.cellAt _ (by omega)]
  exact cellsOf_at plCells_len hp hj
theorem own_frozen {w : World} {lo e size n c g : Nat} {A : Option Addr} {xs : List Value} (h : w.ownsRow lo e size (.slice A n c) n xs) (hA : A = some ⟨g, 0, none⟩) (j : Nat) : w.frozen? ⟨g, j, none⟩ = false := by
  subst hA
  exact h.frozenAt j
/-- A fresh slice of piles. -/
def PilesRes (ps : List Pl) (w : World) (e : Ending) (w' : World) : Prop :=
  ∃ B c, e = .returned (.slice B ps.length c) ∧ w.grownBy w' none ∧ w'.ownsRow w.heap.size 65 2 (.slice B ps.length c) ps.length (cellsOf plCells ps)

def putFacts (w : World) (lo n k : Nat) (ps : List Pl) (t : ByteArray) (m : Int) (L : Value) : Nat → Value → World → Prop
  | 0 => fun v x => RowF x w.heap.size 65 2 (cellsOf plCells (ps.take k ++ (t, m) :: ps.drop k)) v 0 0
  | 1 => fun v _ => v = L
  | 2 => fun v _ => v = .int .i64 k
  | 3 => fun v _ => ∃ A c, v = .slice A k c ∧ Piles w lo A k c (ps.take k)
  | 4 => fun v x => ∃ c, RowF x w.heap.size 65 2 (cellsOf plCells (ps.take k ++ (t, m) :: ps.drop k)) v k c
  | 5 => fun v _ => v = .string t
  | 6 => fun v _ => v = .int .i64 m
  | 7 => fun v _ => v = .agg #[.string t, .int .i64 m]
  | 8 => fun v x => RowO x w.heap.size 65 [.string t, .int .i64 m] v
  | 9 => fun v x => ∃ c, RowF x w.heap.size 65 2 (cellsOf plCells (ps.take k ++ (t, m) :: ps.drop k)) v (k + 1) c
  | 10 => fun v _ => v = L
  | 11 => fun v _ => v = .int .i64 k
  | 12 => fun v _ => ∃ A c, v = .slice A (n - k) c ∧ Piles w lo A (n - k) c (ps.drop k)
  | _ => fun v x => ∃ c, RowF x w.heap.size 65 2 (cellsOf plCells (ps.take k ++ (t, m) :: ps.drop k)) v (n + 1) c
theorem putFacts_kept {w : World} {lo n k : Nat} {ps : List Pl} {t : ByteArray} {m : Int} {L : Value} {x y : World} (h : KF w.heap.size 65 2 (cellsOf plCells (ps.take k ++ (t, m) :: ps.drop k)) x y) :
    ∀ i v, putFacts w lo n k ps t m L i v x → putFacts w lo n k ps t m L i v y := by
  intro i v hv
  unfold putFacts at *
  split at hv
  all_goals first | exact hv | exact RowF.keep hv h | (obtain ⟨c, hv⟩ := hv; exact ⟨c, hv.keep h⟩) | exact RowO.keep hv (by simp) h

attribute [local go_sem] flowAct flowOp_def flowUpon
set_option maxHeartbeats 4000000 in
theorem c_l3Put (lo : Nat) (A : Option Addr) (n cap : Nat) (ps : List Pl) (t : ByteArray) (m : Int) (w : World) (h : Piles w lo A n cap ps) (hn : n ≤ 2000000000000) :
    Calls Tryz.prog 66 #[.slice A n cap, .string t, .int .i64 m] w (PilesRes (put ps t m) w) := by
  have hlc := h.1
  have hcm := Sl.max h
  have hxl := Lib.hid h.len
  go_enter Tryz.func66, Tryz.ntmps66
  go_wp2
  go_loop [7] (fun i => ∃ k : Nat, k ≤ n ∧ i = .int .i64 k ∧ Hid (∀ p ∈ ps.take k, sLt p.1 t = true)) (fun i => n - (intOf i).toNat)
  case atStart => exact ⟨0, Nat.zero_le _, rfl, Lib.hid (by simp)⟩
  case round =>
    obtain ⟨k, hk, rfl, hpre⟩ := hrel
    by_cases hlt : k < n
    · obtain ⟨b, off, ⟨s, q⟩, rfl, _, hbl, hp, m0, m1⟩ := h.at_ hlt
      have hk' : (k : Int) < (n : Int) := by omega
      have hk0 : (0 : Int) ≤ (k : Int) := by omega
      obtain ⟨L, hL⟩ : ∃ L, Op.bytesLess s.toList t.toList = L := ⟨_, rfl⟩
      have HL : Hid (sLt s t = L) := Lib.hid hL
      cases L with
      | true =>
        go_wp2
        go_round
        case rel => exact ⟨k + 1, by omega, by go_num, Lib.hid (fun p hm => by
          rw [take_succ_of hp.out] at hm
          rcases List.mem_append.1 hm with hm | hm
          · exact hpre.out p hm
          · rw [List.mem_singleton.1 hm]; exact HL.out)⟩
        case measure => simp [intOf]; omega
      | false =>
        have hkp : Hid (putPos ps t = k) := Lib.hid (putPos_of (by rw [hxl.out]; exact hk) hpre.out (fun p hp' => by rw [hp.out] at hp'; injection hp' with hp'; subst hp'; exact HL.out))
        by_cases hst : s = t
        · subst hst
          have hse : (s.toList == s.toList) = true := by simp
          have hput : Hid (put ps s m = ps.set k (s, IntKind.i64.wrap (q + m))) := Lib.hid (by
            have := put_eq m (p := (s, q)) (by rw [hkp.out]; exact hp.out) rfl
            rwa [hkp.out] at this)
          have hw64 : Hid (IntKind.i64.wrap (q + m) = wrap64 (q + m)) := Lib.hid (by first | rfl | (rw [IntKind.wrap_i64]; unfold wrap64; rfl))
          have hpl : Hid ((put ps s m).length = n) := Lib.hid (by rw [hput.out, List.length_set]; exact hxl.out)
          go_wp2_with (at_builtin; refine wpList_appAll pileE rfl _ _ rfl w.heap.size lo 0 n cap _ _ (cellsOf plCells ps) (some ⟨b, off, none⟩) rfl (own_empty _ _ _ _ (Nat.le_refl _)) rfl (h.keep0 (gb_alloc (gb_refl _ _) _)) plCells_one (by omega) (by omega) (by simp) ?_; intro B' c' w3 hown3 hb3 hg3 hat3; have hbw := (((Below.refl w.heap.size w).alloc (Nat.le_refl _) (.cells #[] 65)).trans hb3); have m0' := (hbw.cell (p := ⟨b, off + k * 2, none⟩) hbl).trans m0; rw [Nat.zero_add, List.nil_append] at hown3; obtain ⟨g, rfl, hg0, hgz⟩ := own_addr2 hown3 (by omega); have c1 : w3.cell? ⟨g, k * 2 + 1, none⟩ = some (.int .i64 q) := own_pile hown3 rfl hp.out hlt 1 (by omega); have f1 := own_frozen hown3 rfl (k * 2 + 1))
          obtain ⟨hst3, hgs3⟩ := hown3.stored (k * 2 + 1) (.int .i64 (wrap64 (q + m)))
          rw [← cellsOf_set (y' := (s, wrap64 (q + m))) plCells_len hp.out (by omega) rfl] at hst3
          go_ret
          refine ⟨some ⟨g, 0, none⟩, c', by rw [hpl.out]; rfl, ?_, by rw [hpl.out, hput.out, hw64.out]; exact hst3⟩
          exact gb_of_below (hbw.setCell hg0 _) none
        · have hse : (s.toList == t.toList) = false := str_ne hst
          have hput : Hid (put ps t m = ps.take k ++ (t, m) :: ps.drop k) := Lib.hid (by
            have := put_ne (t := t) m (fun p hp' => by rw [hkp.out, hp.out] at hp'; injection hp' with hp'; subst hp'; exact hst)
            rwa [hkp.out] at this)
          have hpl : Hid ((put ps t m).length = n + 1) := Lib.hid (by rw [hput.out]; simp; have := hxl.out; omega)
          clear hst
          go_wp2_with (at_builtin; refine wpList_appAll pileE rfl _ _ rfl w.heap.size lo 0 n cap _ _ (cellsOf plCells ps) (some ⟨b, off, none⟩) rfl (own_empty _ _ _ _ (Nat.le_refl _)) rfl (h.keep0 (gb_alloc (gb_refl _ _) _)) plCells_one (by omega) (by omega) (by simp) ?_; intro B' c' w3 hown3 hb3 hg3 hat3; have hbw := (((Below.refl w.heap.size w).alloc (Nat.le_refl _) (.cells #[] 65)).trans hb3); have m0' := (hbw.cell (p := ⟨b, off + k * 2, none⟩) hbl).trans m0)
          --REGION A
          have hz3 := hbw.size
          have hBw : ∀ x, Below w3.heap.size w3 x → Piles x lo (some ⟨b, off, none⟩) n cap ps := fun x hx => h.keep0 (gb_of_below (hbw.trans (hx.mono hz3)) none)
          have Hbw := Lib.hid hBw
          have htk : Hid (Piles w3 lo (some ⟨b, off, none⟩) k cap (ps.take k)) := Lib.hid ((Hbw.out w3 (Below.refl _ _)).take hk)
          have hdr : Hid (Piles w3 lo (if cap = k then some ⟨b, off, none⟩ else some ⟨b, off + k * 2, none⟩) (n - k) (cap - k) (ps.drop k)) := Lib.hid (by have := (Hbw.out w3 (Below.refl _ _)).drop hk; simpa only [Option.map_some, add_off] using this)
          have hkc : k ≤ cap := by omega
          have hfl : Hid ((ps.take k ++ (t, m) :: ps.drop k).length = n + 1) := Lib.hid (by rw [← hput.out]; exact hpl.out)
          have hf1 : ∀ j, j < k * 2 → (cellsOf plCells (ps.take k ++ (t, m) :: ps.drop k))[0 * 2 + j]? = (cellsOf plCells (ps.take k))[j]? := fun j hj => by
            rw [Nat.zero_mul, Nat.zero_add, cellsOf_append, List.getElem?_append_left (by rw [cellsOf_len plCells_len, List.length_take, hxl.out]; omega)]
          have hf2 : ∀ j, j < 1 * 2 → (cellsOf plCells (ps.take k ++ (t, m) :: ps.drop k))[k * 2 + j]? = [Value.string t, Value.int .i64 m][j]? := fun j hj => by
            have := cellsOf_at plCells_len (xs := ps.take k ++ (t, m) :: ps.drop k) (k := k) (j := j) (x := (t, m)) (by rw [List.getElem?_append_right (by rw [List.length_take]; omega), List.length_take, hxl.out, show k - min k n = 0 from by omega]; rfl) (by omega)
            rw [this]
            rfl
          have hf3 : ∀ j, j < (n - k) * 2 → (cellsOf plCells (ps.take k ++ (t, m) :: ps.drop k))[(k + 1) * 2 + j]? = (cellsOf plCells (ps.drop k))[j]? := fun j hj => by
            rw [show ps.take k ++ (t, m) :: ps.drop k = (ps.take k ++ [(t, m)]) ++ ps.drop k from by simp, cellsOf_append]
            have h1 : (cellsOf plCells (ps.take k ++ [(t, m)])).length = (k + 1) * 2 := by rw [cellsOf_len plCells_len, List.length_append, List.length_take, hxl.out, Nat.min_eq_left (by omega)]; rfl
            rw [List.getElem?_append_right (by omega), h1, show (k + 1) * 2 + j - (k + 1) * 2 = j from by omega]
          have Hf1 := Lib.hid hf1
          have Hf2 := Lib.hid hf2
          have Hf3 := Lib.hid hf3
          clear hBw hf1 hf2 hf3
          refine wp_flow (by kernel_rfl) (by kernel_rfl) (fun _ x => Below w3.heap.size w3 x ∧ w3.heap.size ≤ x.heap.size) (fun _ x y => KF w3.heap.size 65 2 (cellsOf plCells (ps.take k ++ (t, m) :: ps.drop k)) x y) (putFacts w3 lo n k ps t m (.slice (some ⟨b, off, none⟩) n cap)) ⟨(Below.refl _ _).drew, Nat.le_refl _⟩ (fun i x y hT hC => ⟨hC.1.trans hT.1, Nat.le_trans hC.2 hT.1.size⟩) (fun i x y hT _ => putFacts_kept hT) ?_ ?_
          · refine ⟨fun i u x hn hC hp => ?_, fun i u x hn hC hp => ?_, fun i u x hn hC hp => ?_, fun i u x hn hC hp => ?_, fun i u x hn hC hp => ?_, fun i u x hn hC hp => ?_, fun i u x hn hC hp => ?_, fun i u x hn hC hp => ?_, fun i u x hn hC hp => ?_, fun i u x hn hC hp => ?_, fun i u x hn hC hp => ?_, fun i u x hn hC hp => ?_, fun i u x hn hC hp => ?_, fun i u x hn hC hp => ?_, fun i u x hn hC hp => ?_, trivial⟩
            · simp [flowPreds, Region.binds, putFacts] at hp
              go_simp
              exact ⟨KF.of_gb (gb_alloc (gb_refl _ _) _) hC.2, RowF.empty _ hC.2⟩
            · simp [flowPreds, Region.binds, putFacts] at hp
              go_simp
              exact ⟨KF.of_gb (gb_refl _ _) hC.2, rfl⟩
            · simp [flowPreds, Region.binds, putFacts] at hp
              go_simp
              exact ⟨KF.of_gb (gb_refl _ _) hC.2, rfl⟩
            · have e1 : u 1 = .slice (some ⟨b, off, none⟩) n cap := hp 1 (by decide)
              have e2 : u 2 = .int .i64 k := hp 2 (by decide)
              clear hp
              go_simp
              exact ⟨KF.of_gb (gb_refl _ _) hC.2, _, _, rfl, htk.out⟩
            · have hR := (show RowF x _ _ _ _ (u 0) 0 0 from hp 0 (by decide))
              obtain ⟨A1, c1, e3, h3⟩ := (show ∃ A c, u 3 = .slice A k c ∧ Piles w3 lo A k c (ps.take k) from hp 3 (by decide))
              have h3x := h3.keep0 (gb_of_below hC.1 none)
              obtain ⟨v', c', y, hr, hK, hF⟩ := chain_app pileE hR hC.2 (A := A1) (m := k) (c0 := c1) (us := cellsOf plCells (ps.take k)) (fun e => h3x.none_zero e) h3x.2.2.1 (fun a e => h3x.addr e) plCells_one Hf1.out (by omega) (by omega) 32
              rw [← e3] at hr
              rw [Nat.zero_add] at hF
              refine flowOp_chain (by go_simp) (.tmp 52) (.tmp 55) rfl (by go_simp) (by go_simp) hr ⟨hK, c', hF⟩
            · simp [flowPreds, Region.binds, putFacts] at hp
              go_simp
              exact ⟨KF.of_gb (gb_refl _ _) hC.2, rfl⟩
            · simp [flowPreds, Region.binds, putFacts] at hp
              go_simp
              exact ⟨KF.of_gb (gb_refl _ _) hC.2, rfl⟩
            · have e1 : u 5 = .string t := hp 5 (by decide)
              have e2 : u 6 = .int .i64 m := hp 6 (by decide)
              clear hp
              go_simp
              exact ⟨KF.of_gb (gb_refl _ _) hC.2, rfl⟩
            · have e1 : u 7 = .agg #[.string t, .int .i64 m] := hp 7 (by decide)
              clear hp
              go_simp
              exact ⟨KF.of_gb (gb_alloc (gb_refl _ _) _) hC.2, RowO.new _ hC.2 _⟩
            · obtain ⟨c4, hR⟩ := (show ∃ c, RowF x _ _ _ _ (u 4) k c from hp 4 (by decide))
              have hO := (show RowO x _ _ _ (u 8) from hp 8 (by decide))
              obtain ⟨g8, e8, _, hg8⟩ := hO
              obtain ⟨v', c', y, hr, hK, hF⟩ := chain_app pileE hR hC.2 (A := some ⟨g8, 0, none⟩) (m := 1) (c0 := 1) (us := [.string t, .int .i64 m]) (fun e => by cases e) rfl (fun a e j u' hu => by
                injection e with e
                subst e
                rw [add_off, Nat.zero_add, Blk.cell hg8 j]
                simpa using hu) (by simp [Value.oneCell']) Hf2.out (by omega) (by omega) 32
              rw [← e8] at hr
              refine flowOp_chain (by go_simp) (.tmp 56) (.tmp 60) rfl (by go_simp) (by go_simp) hr ⟨hK, c', hF⟩
            · simp [flowPreds, Region.binds, putFacts] at hp
              go_simp
              exact ⟨KF.of_gb (gb_refl _ _) hC.2, rfl⟩
            · simp [flowPreds, Region.binds, putFacts] at hp
              go_simp
              exact ⟨KF.of_gb (gb_refl _ _) hC.2, rfl⟩
            · have e1 : u 10 = .slice (some ⟨b, off, none⟩) n cap := hp 10 (by decide)
              have e2 : u 11 = .int .i64 k := hp 11 (by decide)
              clear hp
              go_simp
              exact ⟨KF.of_gb (gb_refl _ _) hC.2, _, _, rfl, hdr.out⟩
            · obtain ⟨c9, hR⟩ := (show ∃ c, RowF x _ _ _ _ (u 9) (k + 1) c from hp 9 (by decide))
              obtain ⟨A1, c1, e3, h3⟩ := (show ∃ A c, u 12 = .slice A (n - k) c ∧ Piles w3 lo A (n - k) c (ps.drop k) from hp 12 (by decide))
              have h3x := h3.keep0 (gb_of_below hC.1 none)
              obtain ⟨v', c', y, hr, hK, hF⟩ := chain_app pileE hR hC.2 (A := A1) (m := n - k) (c0 := c1) (us := cellsOf plCells (ps.drop k)) (fun e => h3x.none_zero e) h3x.2.2.1 (fun a e => h3x.addr e) plCells_one Hf3.out (by omega) (by omega) 32
              rw [← e3] at hr
              rw [show k + 1 + (n - k) = n + 1 from by omega] at hF
              refine flowOp_chain (by go_simp) (.tmp 61) (.tmp 64) rfl (by go_simp) (by go_simp) hr ⟨hK, c', hF⟩
            · obtain ⟨c13, hR⟩ := (show ∃ c, RowF x _ _ _ _ (u 13) (n + 1) c from hp 13 (by decide))
              clear hp
              go_simp
              exact ⟨KF.of_gb (gb_refl _ _) hC.2, c13, hR⟩
          · intro i u x hn hC hp
            obtain ⟨c14, hR⟩ := (show ∃ c, RowF x w3.heap.size 65 2 (cellsOf plCells (ps.take k ++ (t, m) :: ps.drop k)) (u 14) (n + 1) c from hp 14 (by decide))
            obtain ⟨g, e14, ho⟩ := hR.own (by rw [cellsOf_len plCells_len, hfl.out])
            clear hp hR
            go_simp
            go_wp2
            go_ret
            refine ⟨some ⟨g, 0, none⟩, c14, by rw [hpl.out]; rfl, gb_of_below (hbw.trans (hC.1.mono hz3)) none, ?_⟩
            rw [hpl.out, hput.out]
            exact own_lo ho hz3
          --ENDREGION
    · obtain rfl : k = n := by omega
      have hkp : Hid (putPos ps t = k) := Lib.hid (putPos_of (by rw [hxl.out]; exact hk) hpre.out (fun p hp' => by rw [List.getElem?_eq_none (by rw [hxl.out]; exact Nat.le_refl _)] at hp'; cases hp'))
      have hput : Hid (put ps t m = ps.take k ++ (t, m) :: ps.drop k) := Lib.hid (by
        have := put_ne (t := t) m (fun p hp' => by rw [hkp.out, List.getElem?_eq_none (by rw [hxl.out]; exact Nat.le_refl _)] at hp'; cases hp')
        rwa [hkp.out] at this)
      have hpl : Hid ((put ps t m).length = k + 1) := Lib.hid (by rw [hput.out]; simp; have := hxl.out; omega)
      go_wp2_with (at_builtin; refine wpList_appAll pileE rfl _ _ rfl w.heap.size lo 0 k cap _ _ (cellsOf plCells ps) A rfl (own_empty _ _ _ _ (Nat.le_refl _)) rfl (h.keep0 (gb_alloc (gb_refl _ _) _)) plCells_one (by omega) (by omega) (by simp) ?_; intro B' c' w3 hown3 hb3 hg3 hat3; have hbw := (((Below.refl w.heap.size w).alloc (Nat.le_refl _) (.cells #[] 65)).trans hb3))
      --REGION B
      have hz3 := hbw.size
      have hBw : ∀ x, Below w3.heap.size w3 x → Piles x lo A k cap ps := fun x hx => h.keep0 (gb_of_below (hbw.trans (hx.mono hz3)) none)
      have Hbw := Lib.hid hBw
      have htk : Hid (Piles w3 lo A k cap (ps.take k)) := Lib.hid ((Hbw.out w3 (Below.refl _ _)).take hk)
      have hdr : Hid (Piles w3 lo (if cap = k then A else Option.map (fun a : Addr => a.add (k * 2)) A) (k - k) (cap - k) (ps.drop k)) := Lib.hid ((Hbw.out w3 (Below.refl _ _)).drop hk)
      have hkc : k ≤ cap := by omega
      have hfl : Hid ((ps.take k ++ (t, m) :: ps.drop k).length = k + 1) := Lib.hid (by rw [← hput.out]; exact hpl.out)
      have hf1 : ∀ j, j < k * 2 → (cellsOf plCells (ps.take k ++ (t, m) :: ps.drop k))[0 * 2 + j]? = (cellsOf plCells (ps.take k))[j]? := fun j hj => by
        rw [Nat.zero_mul, Nat.zero_add, cellsOf_append, List.getElem?_append_left (by rw [cellsOf_len plCells_len, List.length_take, hxl.out]; omega)]
      have hf2 : ∀ j, j < 1 * 2 → (cellsOf plCells (ps.take k ++ (t, m) :: ps.drop k))[k * 2 + j]? = [Value.string t, Value.int .i64 m][j]? := fun j hj => by
        have := cellsOf_at plCells_len (xs := ps.take k ++ (t, m) :: ps.drop k) (k := k) (j := j) (x := (t, m)) (by rw [List.getElem?_append_right (by rw [List.length_take]; omega), List.length_take, hxl.out, show k - min k k = 0 from by omega]; rfl) (by omega)
        rw [this]
        rfl
      have hf3 : ∀ j, j < (k - k) * 2 → (cellsOf plCells (ps.take k ++ (t, m) :: ps.drop k))[(k + 1) * 2 + j]? = (cellsOf plCells (ps.drop k))[j]? := fun j hj => by
        rw [show ps.take k ++ (t, m) :: ps.drop k = (ps.take k ++ [(t, m)]) ++ ps.drop k from by simp, cellsOf_append]
        have h1 : (cellsOf plCells (ps.take k ++ [(t, m)])).length = (k + 1) * 2 := by rw [cellsOf_len plCells_len, List.length_append, List.length_take, hxl.out, Nat.min_eq_left (by omega)]; rfl
        rw [List.getElem?_append_right (by omega), h1, show (k + 1) * 2 + j - (k + 1) * 2 = j from by omega]
      have Hf1 := Lib.hid hf1
      have Hf2 := Lib.hid hf2
      have Hf3 := Lib.hid hf3
      clear hBw hf1 hf2 hf3
      refine wp_flow (by kernel_rfl) (by kernel_rfl) (fun _ x => Below w3.heap.size w3 x ∧ w3.heap.size ≤ x.heap.size) (fun _ x y => KF w3.heap.size 65 2 (cellsOf plCells (ps.take k ++ (t, m) :: ps.drop k)) x y) (putFacts w3 lo k k ps t m (.slice A k cap)) ⟨(Below.refl _ _).drew, Nat.le_refl _⟩ (fun i x y hT hC => ⟨hC.1.trans hT.1, Nat.le_trans hC.2 hT.1.size⟩) (fun i x y hT _ => putFacts_kept hT) ?_ ?_
      · refine ⟨fun i u x hn hC hp => ?_, fun i u x hn hC hp => ?_, fun i u x hn hC hp => ?_, fun i u x hn hC hp => ?_, fun i u x hn hC hp => ?_, fun i u x hn hC hp => ?_, fun i u x hn hC hp => ?_, fun i u x hn hC hp => ?_, fun i u x hn hC hp => ?_, fun i u x hn hC hp => ?_, fun i u x hn hC hp => ?_, fun i u x hn hC hp => ?_, fun i u x hn hC hp => ?_, fun i u x hn hC hp => ?_, fun i u x hn hC hp => ?_, trivial⟩
        · simp [flowPreds, Region.binds, putFacts] at hp
          go_simp
          exact ⟨KF.of_gb (gb_alloc (gb_refl _ _) _) hC.2, RowF.empty _ hC.2⟩
        · simp [flowPreds, Region.binds, putFacts] at hp
          go_simp
          exact ⟨KF.of_gb (gb_refl _ _) hC.2, rfl⟩
        · simp [flowPreds, Region.binds, putFacts] at hp
          go_simp
          exact ⟨KF.of_gb (gb_refl _ _) hC.2, rfl⟩
        · have e1 : u 1 = .slice A k cap := hp 1 (by decide)
          have e2 : u 2 = .int .i64 k := hp 2 (by decide)
          clear hp
          go_simp
          exact ⟨KF.of_gb (gb_refl _ _) hC.2, _, _, rfl, htk.out⟩
        · have hR := (show RowF x _ _ _ _ (u 0) 0 0 from hp 0 (by decide))
          obtain ⟨A1, c1, e3, h3⟩ := (show ∃ A c, u 3 = .slice A k c ∧ Piles w3 lo A k c (ps.take k) from hp 3 (by decide))
          have h3x := h3.keep0 (gb_of_below hC.1 none)
          obtain ⟨v', c', y, hr, hK, hF⟩ := chain_app pileE hR hC.2 (A := A1) (m := k) (c0 := c1) (us := cellsOf plCells (ps.take k)) (fun e => h3x.none_zero e) h3x.2.2.1 (fun a e => h3x.addr e) plCells_one Hf1.out (by omega) (by omega) 32
          rw [← e3] at hr
          rw [Nat.zero_add] at hF
          refine flowOp_chain (by go_simp) (.tmp 52) (.tmp 55) rfl (by go_simp) (by go_simp) hr ⟨hK, c', hF⟩
        · simp [flowPreds, Region.binds, putFacts] at hp
          go_simp
          exact ⟨KF.of_gb (gb_refl _ _) hC.2, rfl⟩
        · simp [flowPreds, Region.binds, putFacts] at hp
          go_simp
          exact ⟨KF.of_gb (gb_refl _ _) hC.2, rfl⟩
        · have e1 : u 5 = .string t := hp 5 (by decide)
          have e2 : u 6 = .int .i64 m := hp 6 (by decide)
          clear hp
          go_simp
          exact ⟨KF.of_gb (gb_refl _ _) hC.2, rfl⟩
        · have e1 : u 7 = .agg #[.string t, .int .i64 m] := hp 7 (by decide)
          clear hp
          go_simp
          exact ⟨KF.of_gb (gb_alloc (gb_refl _ _) _) hC.2, RowO.new _ hC.2 _⟩
        · obtain ⟨c4, hR⟩ := (show ∃ c, RowF x _ _ _ _ (u 4) k c from hp 4 (by decide))
          have hO := (show RowO x _ _ _ (u 8) from hp 8 (by decide))
          obtain ⟨g8, e8, _, hg8⟩ := hO
          obtain ⟨v', c', y, hr, hK, hF⟩ := chain_app pileE hR hC.2 (A := some ⟨g8, 0, none⟩) (m := 1) (c0 := 1) (us := [.string t, .int .i64 m]) (fun e => by cases e) rfl (fun a e j u' hu => by
            injection e with e
            subst e
            rw [add_off, Nat.zero_add, Blk.cell hg8 j]
            simpa using hu) (by simp [Value.oneCell']) Hf2.out (by omega) (by omega) 32
          rw [← e8] at hr
          refine flowOp_chain (by go_simp) (.tmp 56) (.tmp 60) rfl (by go_simp) (by go_simp) hr ⟨hK, c', hF⟩
        · simp [flowPreds, Region.binds, putFacts] at hp
          go_simp
          exact ⟨KF.of_gb (gb_refl _ _) hC.2, rfl⟩
        · simp [flowPreds, Region.binds, putFacts] at hp
          go_simp
          exact ⟨KF.of_gb (gb_refl _ _) hC.2, rfl⟩
        · have e1 : u 10 = .slice A k cap := hp 10 (by decide)
          have e2 : u 11 = .int .i64 k := hp 11 (by decide)
          clear hp
          go_simp
          exact ⟨KF.of_gb (gb_refl _ _) hC.2, _, _, by rw [Nat.sub_self], hdr.out⟩
        · obtain ⟨c9, hR⟩ := (show ∃ c, RowF x _ _ _ _ (u 9) (k + 1) c from hp 9 (by decide))
          obtain ⟨A1, c1, e3, h3⟩ := (show ∃ A c, u 12 = .slice A (k - k) c ∧ Piles w3 lo A (k - k) c (ps.drop k) from hp 12 (by decide))
          have h3x := h3.keep0 (gb_of_below hC.1 none)
          obtain ⟨v', c', y, hr, hK, hF⟩ := chain_app pileE hR hC.2 (A := A1) (m := k - k) (c0 := c1) (us := cellsOf plCells (ps.drop k)) (fun e => h3x.none_zero e) h3x.2.2.1 (fun a e => h3x.addr e) plCells_one Hf3.out (by omega) (by omega) 32
          rw [← e3] at hr
          rw [show k + 1 + (k - k) = k + 1 from by omega] at hF
          refine flowOp_chain (by go_simp) (.tmp 61) (.tmp 64) rfl (by go_simp) (by go_simp) hr ⟨hK, c', hF⟩
        · obtain ⟨c13, hR⟩ := (show ∃ c, RowF x _ _ _ _ (u 13) (k + 1) c from hp 13 (by decide))
          clear hp
          go_simp
          exact ⟨KF.of_gb (gb_refl _ _) hC.2, c13, hR⟩
      · intro i u x hn hC hp
        obtain ⟨c14, hR⟩ := (show ∃ c, RowF x w3.heap.size 65 2 (cellsOf plCells (ps.take k ++ (t, m) :: ps.drop k)) (u 14) (k + 1) c from hp 14 (by decide))
        obtain ⟨g, e14, ho⟩ := hR.own (by rw [cellsOf_len plCells_len, hfl.out])
        clear hp hR
        go_simp
        go_wp2
        go_ret
        refine ⟨some ⟨g, 0, none⟩, c14, by rw [hpl.out]; rfl, gb_of_below (hbw.trans (hC.1.mono hz3)) none, ?_⟩
        rw [hpl.out, hput.out]
        exact own_lo ho hz3
      --ENDREGION
end Go.Proofs.YtboobimpoddacaaGreatDoor

namespace Go.Proofs.YtboobimpoddacaaGreatDoor
open Go.RowKit
set_option linter.unusedVariables false

def addOK (ps : List Pl) (t : ByteArray) (m : Int) : Bool := pilesOK ps && plOK (t, m) && pilesOK (put ps t m)
def addRes (ps : List Pl) (t : ByteArray) (m : Int) : List Pl := if addOK ps t m then put ps t m else []
/-- A fresh slice of piles, and a truth. -/
def PilesOkRes (ps : List Pl) (ok : Bool) (w : World) (e : Ending) (w' : World) : Prop :=
  ∃ B c, e = .returned (.tuple #[.slice B ps.length c, .bool ok]) ∧ w.grownBy w' none ∧ w'.ownsRow w.heap.size 65 2 (.slice B ps.length c) ps.length (cellsOf plCells ps)
theorem put_sizes {ps : List Pl} {t : ByteArray} {m : Int} {M : Nat} (h : ∀ p ∈ ps, p.1.size ≤ M) (ht : t.size ≤ M) : ∀ p ∈ put ps t m, p.1.size ≤ M := by
  intro p hp
  have : p.1 ∈ (put ps t m).map (·.1) := List.mem_map.2 ⟨p, hp, rfl⟩
  rw [put_texts] at this
  rcases this with h1 | h1
  · rw [h1]; exact ht
  · obtain ⟨q, hq, h2⟩ := List.mem_map.1 h1
    rw [← h2]; exact h q hq

set_option maxHeartbeats 1000000 in
theorem c_spec_PilesAdd (lo : Nat) (A : Option Addr) (n cap : Nat) (ps : List Pl) (t : ByteArray) (m : Int) (w : World) (h : Piles w lo A n cap ps) (hn : n ≤ 1999999) (hs : ∀ p ∈ ps, p.1.size ≤ 2000000) (ht : t.size ≤ 2000000) :
    Calls Tryz.prog 42 #[.slice A n cap, .string t, .int .i64 m] w (PilesOkRes (addRes ps t m) (addOK ps t m) w) := by
  have Hs := Lib.hid hs
  have Hps := Lib.hid (put_sizes (m := m) hs ht)
  have Hxl := Lib.hid h.len
  clear hs
  obtain ⟨V1, hV1⟩ : ∃ V, pilesOK ps = V := ⟨_, rfl⟩
  obtain ⟨V2, hV2⟩ : ∃ V, plOK (t, m) = V := ⟨_, rfl⟩
  obtain ⟨V3, hV3⟩ : ∃ V, pilesOK (put ps t m) = V := ⟨_, rfl⟩
  have H1 := Lib.hid hV1
  have H2 := Lib.hid hV2
  have H3 := Lib.hid hV3
  clear hV1 hV2 hV3
  have hbad : ∀ B c w', V1 = false ∨ V2 = false ∨ V3 = false → w.grownBy w' none → w'.ownsRow w.heap.size 65 2 (.slice B 0 c) 0 [] → PilesOkRes (addRes ps t m) (addOK ps t m) w (.returned (.tuple #[.slice B 0 c, .bool false])) w' := by
    intro B c w' hv hg ho
    have h0 : addOK ps t m = false := by
      unfold addOK
      rw [H1.out, H2.out, H3.out]
      rcases hv with rfl | rfl | rfl <;> simp
    have h1 : addRes ps t m = [] := by unfold addRes; rw [h0]; rfl
    exact ⟨B, c, by rw [h0, h1]; rfl, hg, by rw [h1]; exact ho⟩
  have Hbad := Lib.hid hbad
  clear hbad
  go_enter Tryz.func42, Tryz.ntmps42
  go_wp2_with fail
  refine (c_spec_PilesValid lo A n cap ps _ h Hs.out).mono ?_
  rintro e w1 ⟨rfl, hg1⟩
  rw [H1.out]
  cases V1 with
  | false =>
    go_wp2
    go_ret2
    exact Hbad.out _ _ _ (.inl trivial) (gb_alloc hg1 _) (own_empty _ _ _ _ hg1.size)
  | true =>
    go_wp2_with fail
    refine (c_l3Pile t m _ ht).mono ?_
    rintro e w2 ⟨rfl, hg2⟩
    rw [H2.out]
    have hG2 := gb_trans hg1 hg2
    cases V2 with
    | false =>
      go_wp2
      go_ret2
      exact Hbad.out _ _ _ (.inr (.inl trivial)) (gb_alloc hG2 _) (own_empty _ _ _ _ hG2.size)
    | true =>
      go_wp2_with fail
      refine (c_l3Put lo A n cap ps t m _ (h.keep0 hG2) (by omega)).mono ?_
      rintro e w3 ⟨B, c, rfl, hg3, ho3⟩
      have hG3 := gb_trans hG2 hg3
      have hpl : Hid ((put ps t m).length ≤ 2000000) := Lib.hid (by have h1 := put_length ps t m; have := Hxl.out; omega)
      have hcall := c_spec_PilesValid _ B (put ps t m).length c (put ps t m) w3 (Sl.own ho3) Hps.out
      have Hc := Lib.hid hcall
      obtain ⟨N, hN⟩ : ∃ N, (put ps t m).length = N := ⟨_, rfl⟩
      have HN := Lib.hid hN
      rw [hN] at Hc ho3
      rw [hN]
      clear hN hcall
      go_wp2_with fail
      refine Hc.out.mono ?_
      rintro e w4 ⟨rfl, hg4⟩
      rw [H3.out]
      have hG4 := gb_trans hG3 hg4
      clear Hc
      cases V3 with
      | false =>
        go_wp2
        go_ret2
        exact Hbad.out _ _ _ (.inr (.inr trivial)) (gb_alloc hG4 _) (own_empty _ _ _ _ hG4.size)
      | true =>
        have hok : Hid (addOK ps t m = true) := Lib.hid (by unfold addOK; rw [H1.out, H2.out, H3.out]; rfl)
        have hres : Hid (addRes ps t m = put ps t m) := Lib.hid (by unfold addRes; rw [hok.out]; rfl)
        have ho4 := own_lo (own_below ho3 hg4) hG2.size
        go_wp2
        go_ret2
        exact ⟨B, c, by rw [hok.out, hres.out, HN.out]; rfl, hG4, by rw [hres.out, HN.out]; exact ho4⟩
end Go.Proofs.YtboobimpoddacaaGreatDoor

namespace Go.Proofs.YtboobimpoddacaaGreatDoor
open Go.RowKit Go.Maps Go.WideMaps
set_option linter.unusedVariables false

/-- Lists of piles. -/
def plsRec : Rec (List Pl) := ⟨0, fun _ => [], fun x => x, fun _ => rfl⟩
abbrev Plss (w : World) (lo : Nat) (A : Option Addr) (n cap : Nat) (pss : List (List Pl)) : Prop := Recs plsRec w lo A n cap pss
theorem Plss.at_ {w : World} {lo n cap k : Nat} {A : Option Addr} {pss : List (List Pl)} (h : Plss w lo A n cap pss) (hk : k < n) : ∃ b off ps A' c', A = some ⟨b, off, none⟩ ∧ Hid (pss[k]? = some ps) ∧ Piles w lo A' ps.length c' ps ∧ w.cell? ⟨b, off + k, none⟩ = some (.slice A' ps.length c') := by
  obtain ⟨b, off, ps, A', c', e, hx, hp, _, hs⟩ := Recs.at_ h hk
  have hs : w.cell? ⟨b, off + k * 1 + 0, none⟩ = some (.slice A' ps.length c') := hs
  rw [Nat.mul_one, Nat.add_zero] at hs
  exact ⟨b, off, ps, A', c', e, hx, hp, hs⟩

theorem om_keep {P : Program} {k : TypeId} {R : Value → Option (DataW Unit × List MemPlace)} {w w' : World} {b n : Nat} {D : DataW Unit} {row : Option Nat} (h : w.ownsMap P k R b n D) (hg : w.grownBy w' row) (hr : some b ≠ row) : w'.ownsMap P k R b n D := by
  have hlt := h.lt
  obtain ⟨es, clock, hb, F, hs, hD⟩ := h
  exact ⟨es, clock, (hg.block b hlt hr).trans hb, F, hs, hD⟩

theorem keysLaw : Keyed Tryz.prog 9 := string_keyed Tryz.underlying9
theorem zeroInt (w : World) : (zeroValue 3).run Tryz.prog w = .ok (.int .i64 0) w := by kernel_rfl
abbrev MapIn (w : World) (b n : Nat) (D : DataW Unit) : Prop := w.ownsMap Tryz.prog 9 (plainElem Tryz.prog 3) b n D

def sumOK (es : List Pl) : Bool := pilesOK (canon es)
def sumRes (es : List Pl) : List Pl := if sumOK es then canon es else []

theorem small_sub {es fs : List Pl} (h : Small es) (hs : ∀ e ∈ fs, e ∈ es) (hl : fs.length ≤ es.length) : Small fs := ⟨fun e he => h.1 e (hs e he), Nat.le_trans hl h.2⟩
theorem tot_bound {es : List Pl} (h : Small es) (t : ByteArray) : 0 ≤ tot es t ∧ tot es t ≤ 99 * es.length := by
  have h1 := h.1
  clear h
  induction es with
  | nil => rw [tot_nil]; simp
  | cons e es ih =>
    have := ih (fun x hx => h1 x (List.mem_cons_of_mem _ hx))
    have h2 := h1 e (by simp)
    rw [tot_cons, List.length_cons]
    split <;> omega
theorem tot_snoc (es : List Pl) (p : Pl) (t : ByteArray) : tot (es ++ [p]) t = if t = p.1 then tot es p.1 + p.2 else tot es t := by
  rw [tot_append, tot_cons, tot_nil]
  by_cases h : t = p.1
  · subst h; simp
  · rw [if_neg (fun e => h e.symm), if_neg h]; omega
theorem canon_sizes {es : List Pl} {M : Nat} (h : ∀ p ∈ es, p.1.size ≤ M) : ∀ p ∈ canon es, p.1.size ≤ M := by
  intro p hp
  have : p.1 ∈ (canon es).map (·.1) := List.mem_map.2 ⟨p, hp, rfl⟩
  rw [canon_texts] at this
  obtain ⟨q, hq, e⟩ := List.mem_map.1 this
  rw [← e]
  exact h q hq

theorem below_grow {a w w' : World} {lo M : Nat} (h : Below lo a w) (hg : w.grownBy w' (some M)) (hM : lo ≤ M) (hlo : lo ≤ w.heap.size) : Below lo a w' :=
  ⟨hg.os.trans h.os, hg.tape.trans h.tape, hg.output.trans h.output, Nat.le_trans h.size hg.size, fun i hi => (hg.block i (by omega) (by simp; omega)).trans (h.block i hi)⟩
theorem texts_snoc (es : List Pl) (p : Pl) (t : ByteArray) : t ∈ (es ++ [p]).map (·.1) ↔ t = p.1 ∨ t ∈ es.map (·.1) := by
  rw [List.map_append, List.mem_append, or_comm]
  simp
theorem canon_len (es : List Pl) : (canon es).length ≤ es.length := by
  have : ∀ ps, (canonFrom ps es).length ≤ ps.length + es.length := by
    induction es with
    | nil => intro ps; simp [canonFrom_nil]
    | cons e es ih => intro ps; rw [canonFrom_cons]; have h1 := ih (put ps e.1 e.2); have h2 := put_length ps e.1 e.2; rw [List.length_cons]; omega
  have := this []
  simpa [canon] using this

set_option maxRecDepth 100000 in
set_option maxHeartbeats 4000000 in
theorem c_pilesOf (lo : Nat) (A : Option Addr) (n cap : Nat) (pss : List (List Pl)) (w : World) (h : Plss w lo A n cap pss) (hsm : Small pss.flatten) (hlen : pss.flatten.length ≤ 2000000) (hs : ∀ p ∈ pss.flatten, p.1.size ≤ 2000000) :
    Calls Tryz.prog 52 #[.slice A n cap] w (PilesOkRes (sumRes pss.flatten) (sumOK pss.flatten) w) := by
  have hlc := h.le
  have hcm := h.max
  have hxl := Lib.hid h.len
  have Hsm := Lib.hid hsm
  have Hs := Lib.hid hs
  have Hlen := Lib.hid hlen
  have hmm := @run_makeMap Tryz.prog
  clear hsm hs hlen
  go_enter Tryz.func52, Tryz.ntmps52
  go_wp2
  clear hmm
  go_loopw [15] (fun i wr => ∃ (k : Nat) (D : DataW Unit), k ≤ n ∧ i = .int .i64 k ∧ MapIn wr w.heap.size (pss.take k).flatten.length D ∧ Hid (MapOf D (fun t => t ∈ (pss.take k).flatten.map (·.1)) (tot (pss.take k).flatten)) ∧ Below w.heap.size w wr) (fun i _ => n - (intOf i).toNat)
  case atStart => exact ⟨0, _, Nat.zero_le _, rfl, World.ownsMap_made _ _ _ _, Lib.hid (MapOf.start.congr (fun t => by simp) (fun t => rfl)), (Below.refl _ _).alloc (Nat.le_refl _) _⟩
  case round =>
    obtain ⟨k, D, hk, rfl, hown, hD, hb⟩ := hrel
    rename World => wr
    by_cases hlt : k < n
    · obtain ⟨b, off, ps, A', c', rfl, hp, hps, m00⟩ := Plss.at_ h hlt
      have m0 := gb_cell (gb_of_below hb none) m00 (by simp)
      clear m00
      have hk' : (k : Int) < (n : Int) := by omega
      have hk0 : (0 : Int) ≤ (k : Int) := by omega
      have hsplit : (pss.take (k + 1)).flatten = (pss.take k).flatten ++ ps := by rw [take_succ_of hp.out, List.flatten_append]; simp
      have hpre : pss.flatten = (pss.take k).flatten ++ ps ++ (pss.drop (k + 1)).flatten := by rw [← hsplit, ← List.flatten_append, List.take_append_drop]
      have Hsplit := Lib.hid hsplit
      have Hpre := Lib.hid hpre
      have hpl := Lib.hid hps.len
      obtain ⟨N, hN⟩ : ∃ N, ps.length = N := ⟨_, rfl⟩
      have HN := Lib.hid hN
      have hNl : N ≤ 2000000 := by
        have h1 := Hlen.out
        rw [hpre] at h1
        simp only [List.length_append] at h1
        omega
      rw [hN] at hps m0
      obtain ⟨es, hes⟩ : ∃ es, (pss.take k).flatten = es := ⟨_, rfl⟩
      have Hes := Lib.hid hes
      rw [hes] at hown hD
      have hlc' := hps.1
      have hcm' := Sl.max hps
      clear hN hsplit hpre hes
      go_wp2
      go_loopw [21] (fun i x => ∃ (j : Nat) (D : DataW Unit), j ≤ N ∧ i = .int .i64 j ∧ MapIn x w.heap.size (es.length + j) D ∧ Hid (MapOf D (fun t => t ∈ (es ++ ps.take j).map (·.1)) (tot (es ++ ps.take j))) ∧ Below w.heap.size w x ∧ wr.grownBy x (some w.heap.size)) (fun i _ => N - (intOf i).toNat)
      case atStart => exact ⟨0, D, Nat.zero_le _, rfl, hown, Lib.hid (by simpa using hD.out), hb, gb_refl _ _⟩
      case round =>
        clear hown hD hb
        obtain ⟨j, D, hj, rfl, hown, hD, hb, hgr⟩ := hrel
        rename World => x
        by_cases hjN : j < N
        · obtain ⟨b', off', ⟨s, q⟩, rfl, _, _, hz, p0, p1⟩ := Piles.at_ (hps.keep0 (gb_of_below hb none)) hjN
          have hmem : (s, q) ∈ pss.flatten := by
            rw [Hpre.out]
            exact List.mem_append_left _ (List.mem_append_right _ (List.mem_of_getElem? hz.out))
          have hsz : s.size ≤ 2000000 := Hs.out _ hmem
          have hq : 0 ≤ q ∧ q ≤ 99 := Hsm.out.1 _ hmem
          obtain ⟨hq0, hq1⟩ := hq
          have hkey : keyOf Tryz.prog 9 (.string s) = some (kS s) := keyOf_string_mk Tryz.underlying9 (by unfold maxLen; omega)
          have hes1 : es.length + j ≤ 2000000 := by
            have h1 := Hlen.out
            rw [Hpre.out, Hes.out] at h1
            simp only [List.length_append] at h1
            have := HN.out
            omega
          have hsm1 : Small (es ++ ps.take j) := small_sub Hsm.out (fun e he => by
            rw [Hpre.out, Hes.out]
            rcases List.mem_append.1 he with he | he
            · exact List.mem_append_left _ (List.mem_append_left _ he)
            · exact List.mem_append_left _ (List.mem_append_right _ (List.mem_of_mem_take he))) (by
            rw [Hpre.out, Hes.out]
            simp only [List.length_append, List.length_take]
            omega)
          have htb := tot_bound hsm1 s
          have hl1 : (es ++ ps.take j).length ≤ 2000000 := by
            simp only [List.length_append, List.length_take]
            omega
          obtain ⟨F, hF⟩ : ∃ F, tot (es ++ ps.take j) s = F := ⟨_, rfl⟩
          have HF := Lib.hid hF
          rw [hF] at htb
          have hF0 : 0 ≤ F := htb.1
          have hF1 : F ≤ 198000000 := by have := htb.2; omega
          have hstep : Hid (es ++ ps.take (j + 1) = (es ++ ps.take j) ++ [(s, q)]) := Lib.hid (by rw [take_succ_of hz.out, List.append_assoc])
          clear hmem htb hF hsm1 hl1
          have hj' : (j : Int) < (N : Int) := by omega
          have hj0 : (0 : Int) ≤ (j : Int) := by omega
          have hGa := gb_alloc (gb_refl x none) (.cells #[.string s, .int .i64 q] 65)
          have hown1 := om_keep hown hGa (by simp)
          have hba := hb.trans ((gb_below hGa).mono hb.size)
          have hvl := hD.out.val s
          have Hvl := Lib.hid hvl
          clear hvl hown
          go_wp2_with (first
            | (at_lookup; refine wpList_lookup_own_int _ rfl _ _ 99 rfl 9 3 .i64 keysLaw Tryz.underlying99 Tryz.underlying3 (zeroInt _) w.heap.size _ _ rfl hown1 _ _ rfl hkey ?_; intro c hat hwc; obtain rfl : c = F := by (rw [Hvl.out, HF.out] at hat; injection hat with hat; injection hat with _ hat; exact hat.symm))
            | (at_mapUpdate; refine wpList_mapUpdate_own _ rfl _ _ _ 99 rfl 9 3 keysLaw Tryz.underlying99 _ w.heap.size _ _ rfl hown1 (by unfold maxLen; omega) _ _ _ rfl rfl hkey _ [] (plainElem_int Tryz.underlying3 (WalkArith.wf_i64 (by omega))) ?_; intro w1 hown2 hgrow2))
          go_roundw
          case rel =>
            refine ⟨j + 1, D.put (kS s) (.lit (.int .i64 (c + q))), by omega, by go_num, hown2, Lib.hid ((hD.out.put s (c + q)).congr (fun t => ?_) (fun t => ?_)), below_grow hba hgrow2 (Nat.le_refl _) hba.size, gb_trans (gb_trans hgr (gb_of_below (gb_below hGa) _)) hgrow2⟩
            · show _ ↔ t ∈ (es ++ ps.take (j + 1)).map (·.1)
              rw [hstep.out, texts_snoc]
            · rw [hstep.out, tot_snoc, HF.out]
          case measure => simp [intOf]; omega
        · obtain rfl : j = N := by omega
          have hfin : Hid ((pss.take (k + 1)).flatten = es ++ ps.take j) := Lib.hid (by rw [Hsplit.out, Hes.out, List.take_of_length_le (by rw [HN.out]; exact Nat.le_refl _)])
          have hfl : Hid ((pss.take (k + 1)).flatten.length = es.length + j) := Lib.hid (by rw [Hsplit.out, Hes.out, List.length_append, HN.out])
          go_wp2
          go_roundw
          case rel => exact ⟨k + 1, D, by omega, by go_num, by rw [hfl.out]; exact hown, by rw [hfin.out]; exact hD, hb⟩
          case measure => simp [intOf]; omega
    · obtain rfl : k = n := by omega
      have hfin : (pss.take k).flatten = pss.flatten := by rw [List.take_of_length_le (by rw [hxl.out]; exact Nat.le_refl _)]
      rw [hfin] at hown hD
      clear hfin h hlt
      obtain ⟨es, hes⟩ : ∃ es, pss.flatten = es := ⟨_, rfl⟩
      rw [hes] at hown hD Hsm Hs Hlen
      have Hes := Lib.hid hes
      have hlen := Hlen.out
      have hsize := hown.size_le
      have hM := hown.lt
      clear hes
      go_wp2_with fail
      refine (callsIn_wide.1 (Tryz.maps_Keys_82 (some w.heap.size) wr)).mono ?_
      rintro e w1 ⟨rfl, rfl⟩
      go_wp2_with fail
      refine (callsIn_wide.1 (Tryz.slices_Sorted_keys_81_82 w.heap.size _ D _ wr hown (by unfold maxLen; omega) (by omega))).mono ?_
      rintro e w2 ⟨v, ss, rfl, hS, hrow, hnil, hb2⟩
      clear hnil
      have hcan := hD.out.canon Hsm.out hS
      obtain ⟨ts, hts⟩ : ∃ ts, inOrder ss = ts := ⟨_, rfl⟩
      have hsl : ss.length = ts.length := by rw [← hts, inOrder_len]
      have hrow2 : (ss.mergeSort (fun x y => decide (x ≤ y))).map encStr = ts.map Value.string := by rw [← hts, inOrder, List.map_map]; rfl
      rw [hts] at hcan
      obtain ⟨m, hm⟩ : ∃ m, ts.length = m := ⟨_, rfl⟩
      rw [hrow2, hsl, hm] at hrow
      have hcl : (canon es).length = m := by rw [← hcan, List.length_map, hm]
      have hm1 : m ≤ 2000000 := by have := canon_len es; omega
      obtain ⟨V, C, rfl, hv⟩ := Sl.of_own hrow
      have Hcan := Lib.hid hcan
      have Hm := Lib.hid hm
      have Hcl := Lib.hid hcl
      have hGk := gb_trans (gb_alloc (gb_refl wr none) (.cells #[.map (some w.heap.size)] 99)) (gb_of_below hb2 none)
      have hownk := om_keep hown hGk (by simp)
      have hbk : Below w.heap.size w w2 := hb.trans ((gb_below hGk).mono hb.size)
      clear hown hrow hrow2 hsl hcan hts hS hsize hm hcl hb
      have hbytes : ∀ p ∈ canon es, p.1.size ≤ 2000000 := canon_sizes Hs.out
      have Hbytes := Lib.hid hbytes
      clear hbytes
      go_wp2_with fail
      go_loopw [9, 38] (fun r i x => ∃ (j : Nat) (B : Option Addr) (c : Nat), j ≤ m ∧ r = .slice B j c ∧ i = .int .i64 j ∧ w2.grownBy x none ∧ x.ownsRow w2.heap.size 65 2 (.slice B j c) j (cellsOf plCells ((canon es).take j))) (fun _ i _ => m - (intOf i).toNat)
      case atStart => exact ⟨0, none, 0, Nat.zero_le _, rfl, rfl, gb_refl _ _, own_nil _ _ _ _⟩
      case round =>
        obtain ⟨j, B, c0, hj, rfl, rfl, hG, hown⟩ := hrel
        rename World => x
        by_cases hlt : j < m
        · obtain ⟨b, off, t, rfl, ht, p0⟩ := Strs.at_ (hv.keep0 hG) hlt
          have hj' : (j : Int) < (m : Int) := by omega
          have hj0 : (0 : Int) ≤ (j : Int) := by omega
          have hmk := om_keep hownk hG (by simp)
          have hce : Hid ((canon es)[j]? = some (t, tot es t)) := Lib.hid (by rw [← Hcan.out, List.getElem?_map, ht.out]; rfl)
          have htz : t.size ≤ 2000000 := Hbytes.out _ (List.mem_of_getElem? hce.out)
          have hkey : keyOf Tryz.prog 9 (.string t) = some (kS t) := keyOf_string_mk Tryz.underlying9 (by unfold maxLen; omega)
          obtain ⟨F, hF⟩ : ∃ F, tot es t = F := ⟨_, rfl⟩
          rw [hF] at hce
          have Hvl : Hid (D.atKey (kS t) (.lit (.int .i64 0)) = .lit (.int .i64 F)) := Lib.hid (by rw [← hF]; exact hD.out.val t)
          have hz1 := hG.size
          clear hF
          go_wp2_with (first
            | (at_lookup; refine wpList_lookup_own_int _ rfl _ _ 99 rfl 9 3 .i64 keysLaw Tryz.underlying99 Tryz.underlying3 (zeroInt _) w.heap.size _ _ rfl hmk _ _ rfl hkey ?_; intro c hat hwc; obtain rfl : F = c := by (rw [Hvl.out] at hat; injection hat with hat; injection hat with _ hat))
            | (at_builtin; refine wpList_app pileE rfl _ _ rfl w2.heap.size j _ _ rfl hown [_, _] rfl rfl (by simp [Value.oneCell']) (by omega) (by omega) hz1 ?_; intro D' d' w3 hown3 hb3 hg3 hat3))
          go_roundw
          case rel => exact ⟨j + 1, D', d', by omega, rfl, by go_num, gb_of_below ((gb_below hG).trans hb3) none, by rw [take_succ_of hce.out, cellsOf_append, cellsOf_one]; exact hown3⟩
          case measure => simp [intOf]; omega
        · obtain rfl : j = m := by omega
          rw [List.take_of_length_le (by rw [Hcl.out]; exact Nat.le_refl _)] at hown
          have hbx : Below w.heap.size w x := hbk.trans ((gb_below hG).mono hbk.size)
          have hG2 := gb_of_below hbx none
          have hok := own_lo hown hbk.size
          have hcall := c_impl_PilesValid _ B j c0 (canon es) x (Sl.own hown) Hbytes.out
          have hsv : pilesOK (canon es) = sumOK es := rfl
          rw [hsv] at hcall
          have Hc := Lib.hid hcall
          clear hcall hsv hown
          obtain ⟨O, hO⟩ : ∃ O, sumOK es = O := ⟨_, rfl⟩
          have HO := Lib.hid hO
          rw [hO] at Hc
          have hres : Hid (sumRes es = if O then canon es else []) := Lib.hid (by unfold sumRes; rw [hO])
          clear hO
          go_wp2_with fail
          refine Hc.out.mono ?_
          rintro e w4 ⟨rfl, hg4⟩
          have hG4 := gb_trans hG2 hg4
          have ho4 := own_lo (own_below hok hg4) (Nat.le_refl _)
          cases O with
          | false =>
            go_wp2
            go_ret2
            exact ⟨none, 0, by rw [Hes.out, hres.out, HO.out]; rfl, hG4, by rw [Hes.out, hres.out]; exact own_nil _ _ _ _⟩
          | true =>
            go_wp2
            go_ret2
            exact ⟨B, c0, by rw [Hes.out, hres.out, HO.out]; simp [Hcl.out], hG4, by rw [Hes.out, hres.out]; simp only [if_true, Hcl.out]; exact ho4⟩
end Go.Proofs.YtboobimpoddacaaGreatDoor

namespace Go.Proofs.YtboobimpoddacaaGreatDoor
open Go.RowKit
set_option linter.unusedVariables false

def mergeOK (xs ys : List Pl) : Bool := pilesOK xs && pilesOK ys && pilesOK (canon (xs ++ ys))
def mergeRes (xs ys : List Pl) : List Pl := if mergeOK xs ys then canon (xs ++ ys) else []

end Go.Proofs.YtboobimpoddacaaGreatDoor

namespace Go.Proofs.YtboobimpoddacaaGreatDoor
open Go.RowKit
set_option linter.unusedVariables false

theorem put_end {ps : List Pl} {t : ByteArray} {m : Int} (h : ∀ p ∈ ps, sLt p.1 t = true) : put ps t m = ps ++ [(t, m)] := by
  induction ps with
  | nil => rfl
  | cons p ps ih =>
    rw [put, if_pos (h p (by simp)), ih (fun q hq => h q (List.mem_cons_of_mem _ hq))]
    rfl
theorem canonFrom_end {es : List Pl} : ∀ {ps : List Pl}, Asc (ps ++ es) → canonFrom ps es = ps ++ es := by
  induction es with
  | nil => intro ps _; rw [canonFrom_nil, List.append_nil]
  | cons e es ih =>
    intro ps h
    have he : put ps e.1 e.2 = ps ++ [e] := put_end (fun p hp => by
      unfold Asc at h
      rw [List.pairwise_append] at h
      exact h.2.2 p hp e (by simp))
    rw [canonFrom_cons, he, ih (by rw [List.append_assoc]; exact h), List.append_assoc]
    rfl
/-- Ballots added to piles that ascend. -/
theorem canon_put {ps : List Pl} (h : Asc ps) (t : ByteArray) (m : Int) : canon (ps ++ [(t, m)]) = put ps t m := by
  have h1 : canon ps = ps := canonFrom_end (ps := []) (by rw [List.nil_append]; exact h)
  unfold canon at h1 ⊢
  rw [canonFrom_append, h1, canonFrom_cons, canonFrom_nil]

set_option maxHeartbeats 1000000 in
theorem c_impl_PilesAdd (lo : Nat) (A : Option Addr) (n cap : Nat) (xs : List Pl) (t : ByteArray) (m : Int) (w : World) (h : Piles w lo A n cap xs) (hs : ∀ p ∈ xs, p.1.size ≤ 2000000) (ht : t.size ≤ 2000000) :
    Calls Tryz.prog 35 #[.slice A n cap, .string t, .int .i64 m] w (PilesOkRes (addRes xs t m) (addOK xs t m) w) := by
  have Hs := Lib.hid hs
  clear hs
  obtain ⟨V1, hV1⟩ : ∃ V, pilesOK xs = V := ⟨_, rfl⟩
  have H1 := Lib.hid hV1
  obtain ⟨V2, hV2⟩ : ∃ V, plOK (t, m) = V := ⟨_, rfl⟩
  have H2 := Lib.hid hV2
  clear hV1 hV2
  have hbad : Hid (V1 = false ∨ V2 = false → ∀ w' : World, w.grownBy w' none → PilesOkRes (addRes xs t m) (addOK xs t m) w (.returned (.tuple #[.slice none 0 0, .bool false])) w') := Lib.hid (fun hv w' hg => by
    have h0 : addOK xs t m = false := by
      unfold addOK
      rw [H1.out, H2.out]
      rcases hv with e | e
      · rw [e]; rfl
      · rw [e]; simp
    have h1 : addRes xs t m = [] := by unfold addRes; rw [h0]; rfl
    exact ⟨none, 0, by rw [h0, h1]; rfl, hg, by rw [h1]; exact own_nil _ _ _ _⟩)
  obtain ⟨w0, hw0⟩ : ∃ x, w.alloc (.cells #[.string t, .int .i64 m] 65) = x := ⟨_, rfl⟩
  have hg0 : w.grownBy w0 none := by rw [← hw0]; exact gb_alloc (gb_refl _ _) _
  have hb0 : Blk w0 w.heap.size 65 #[.string t, .int .i64 m] := by rw [← hw0]; exact Blk.new _ _ _
  have Hw0 := Lib.hid hw0
  clear hw0
  have h := h.keep0 hg0
  go_enter Tryz.func35, Tryz.ntmps35
  go_wp2_with fail
  rw [Hw0.out]
  refine (c_impl_PilesValid lo A n cap xs _ h Hs.out).mono ?_
  rintro e w1 ⟨rfl, hg01⟩
  rw [H1.out]
  have hg1 := gb_trans hg0 hg01
  have hb1 := hb0.grown hg01 (by simp)
  have p0 := hb1.cell 0
  have p1 := hb1.cell 1
  simp only [List.getElem?_toArray, List.getElem?_cons_zero, List.getElem?_cons_succ] at p0 p1
  cases V1 with
  | false =>
    go_wp2
    go_ret2
    exact hbad.out (.inl (by first | rfl | trivial)) _ hg1
  | true =>
    go_wp2_with fail
    refine (c_pileValid t m _ ht).mono ?_
    rintro e w2 ⟨rfl, hg2⟩
    rw [H2.out]
    have hG2 := gb_trans hg1 hg2
    have q0 := gb_cell hg2 p0 (by simp)
    have q1 := gb_cell hg2 p1 (by simp)
    cases V2 with
    | false =>
      go_wp2
      go_ret2
      exact hbad.out (.inr (by first | rfl | trivial)) _ hG2
    | true =>
      have s1 := (pilesOK_iff xs).1 H1.out
      have s2 := plOK_many H2.out
      have hx : xs.length = n := h.len
      obtain ⟨w3, hw3⟩ : ∃ x, w2.alloc (.cells #[.string t, .int .i64 m] 65) = x := ⟨_, rfl⟩
      have hz3 : w3.heap.size = w2.heap.size + 1 := by rw [← hw3]; simp
      have hg3 : w2.grownBy w3 none := by rw [← hw3]; exact gb_alloc (gb_refl _ _) _
      have hb3 : Blk w3 w2.heap.size 65 #[.string t, .int .i64 m] := by rw [← hw3]; exact Blk.new _ _ _
      have hBn := Blk.new w3 32 #[.slice A n cap, .slice (some ⟨w2.heap.size, 0, none⟩) 1 1]
      have hal := gb_alloc (gb_refl w3 none) (.cells #[.slice A n cap, .slice (some ⟨w2.heap.size, 0, none⟩) 1 1] 32)
      have hown := own_of_blk (lo := 0) (size := 1) (n := 2) hBn rfl (by omega) (Nat.zero_le _)
      have hone : Piles w3 0 (some ⟨w2.heap.size, 0, none⟩) 1 1 [(t, m)] := Sl.own (own_of_blk (lo := 0) (size := 2) (n := 1) hb3 rfl (by omega) (Nat.zero_le _))
      have hpl : Plss (w3.alloc (.cells #[.slice A n cap, .slice (some ⟨w2.heap.size, 0, none⟩) 1 1] 32)) 0 (some ⟨w3.heap.size, 0, none⟩) 2 2 [xs, [(t, m)]] := by
        refine ⟨[(A, cap), (some ⟨w2.heap.size, 0, none⟩, 1)], rfl, ?_, fun k x d hk hd => ?_⟩
        · have := Sl.own hown
          rw [show cellsOf plsRec.cells ([xs, [(t, m)]].zip [(A, cap), (some ⟨w2.heap.size, 0, none⟩, 1)]) = [.slice A n cap, .slice (some ⟨w2.heap.size, 0, none⟩) 1 1] from by rw [← hx]; rfl]
          exact this
        · match k, hk, hd with
          | 0, hk, hd =>
            simp at hk hd
            subst hk hd
            show Piles _ 0 A xs.length cap xs
            rw [hx]
            exact ((((h.keep0 hg01).keep0 hg2).keep0 hg3).keep0 hal).mono (Nat.zero_le _)
          | 1, hk, hd =>
            simp at hk hd
            subst hk hd
            show Piles _ 0 _ 1 1 [(t, m)]
            exact hone.keep0 hal
          | k + 2, hk, hd => simp at hk
      have hfl : ([xs, [(t, m)]] : List (List Pl)).flatten = xs ++ [(t, m)] := by simp
      have hcall := c_pilesOf 0 _ 2 2 [xs, [(t, m)]] _ hpl (by
        rw [hfl]
        refine ⟨fun e he => ?_, by rw [List.length_append, List.length_singleton]; omega⟩
        rcases List.mem_append.1 he with he | he
        · have := plOK_many (s1.1 e he); omega
        · rw [List.mem_singleton.1 he]; simp only at s2 ⊢; omega) (by rw [hfl, List.length_append, List.length_singleton]; omega) (by
        rw [hfl]
        intro p hp
        rcases List.mem_append.1 hp with hp | hp
        · exact Hs.out p hp
        · rw [List.mem_singleton.1 hp]; exact ht)
      rw [hfl] at hcall
      have hcn := canon_put s1.2.1 t m
      have hsv : sumOK (xs ++ [(t, m)]) = addOK xs t m := by unfold addOK sumOK; rw [H1.out, H2.out, hcn]; rfl
      have hsr : sumRes (xs ++ [(t, m)]) = addRes xs t m := by rw [sumRes, addRes, hsv, hcn]
      rw [hsv, hsr, hz3] at hcall
      have Hcall := Lib.hid hcall
      have Hw3 := Lib.hid hw3
      have hG3 := gb_trans (gb_trans hG2 hg3) hal
      clear hcall hsv hsr hpl hfl hown hBn s1 s2 hx hal hone hb3 hcn hw3 hg3
      go_wp2_with fail
      rw [Hw3.out]
      refine Hcall.out.mono ?_
      rintro e w4 ⟨B3, c3, rfl, hg4, ho4⟩
      go_wp2
      go_ret2
      exact ⟨B3, c3, rfl, gb_trans hG3 hg4, own_lo ho4 hG3.size⟩
end Go.Proofs.YtboobimpoddacaaGreatDoor

namespace Go.Proofs.YtboobimpoddacaaGreatDoor
open Go.RowKit
set_option linter.unusedVariables false

/-- A slice of bools. -/
def Bls (w : World) (lo : Nat) (A : Option Addr) (n cap : Nat) (bs : List Bool) : Prop := Sl w lo 1 A n cap (bs.map Value.bool)
theorem Bls.len {w : World} {lo n cap : Nat} {A : Option Addr} {bs : List Bool} (h : Bls w lo A n cap bs) : bs.length = n := by have := h.2.2.1; simpa using this
theorem Bls.at_ {w : World} {lo n cap k : Nat} {A : Option Addr} {bs : List Bool} (h : Bls w lo A n cap bs) (hk : k < n) : ∃ b off z, A = some ⟨b, off, none⟩ ∧ Hid (bs[k]? = some z) ∧ w.cell? ⟨b, off + k, none⟩ = some (.bool z) := by
  obtain ⟨b, off, u, e, hu, hc⟩ := Sl.at1 h hk
  have hu := hu.out
  rw [List.getElem?_map] at hu
  cases hx : bs[k]? with
  | none => rw [hx] at hu; cases hu
  | some z => rw [hx] at hu; injection hu with hu; subst hu; exact ⟨b, off, z, e, Lib.hid rfl, hc⟩
/-- The first of a ballot who has not left. -/
def bFirst (left : List Bool) : List Int → Int
  | [] => -1
  | c :: xs => if left.getD c.toNat true = false then c else bFirst left xs
theorem bFirst_range {left : List Bool} {xs : List Int} {n : Int} (h : ∀ z ∈ xs, 0 ≤ z ∧ z < n) : bFirst left xs = -1 ∨ (0 ≤ bFirst left xs ∧ bFirst left xs < n) := by
  induction xs with
  | nil => exact .inl rfl
  | cons c xs ih =>
    rw [bFirst]
    split
    · exact .inr (h c (by simp))
    · exact ih (fun z hz => h z (List.mem_cons_of_mem _ hz))

set_option maxHeartbeats 1000000 in
theorem c_BallotFirst (lo lo' : Nat) (A B : Option Addr) (n cap m cap' : Nat) (xs : List Int) (left : List Bool) (w : World) (h : Ints w lo A n cap xs) (h' : Bls w lo' B m cap' left) (hok : ballotOK xs m = true) :
    Calls Tryz.prog 91 #[.slice A n cap, .slice B m cap'] w fun e w' => e = .returned (.int .i64 (bFirst left xs)) ∧ w = w' := by
  have hlc := h.le
  have hcm := h.max
  have hxl := Lib.hid h.len
  have hlc' := Sl.le h'
  have hcm' := Sl.max h'
  have hyl := Lib.hid h'.len
  have hall := Lib.hid ((ballotOK_iff xs m).1 hok).2.2
  have Hok := Lib.hid hok
  clear hok
  go_enter Tryz.func91, Tryz.ntmps91
  go_wp2_with fail
  refine (c_impl_BallotValid lo A n cap xs m _ h).mono ?_
  rintro e w1 ⟨rfl, rfl⟩
  rw [Hok.out]
  go_wp2
  go_loop [14] (fun i => ∃ k : Nat, k ≤ n ∧ i = .int .i64 k ∧ Hid (bFirst left xs = bFirst left (xs.drop k))) (fun i => n - (intOf i).toNat)
  case atStart => exact ⟨0, Nat.zero_le _, rfl, Lib.hid rfl⟩
  case round =>
    obtain ⟨k, hk, rfl, hpre⟩ := hrel
    by_cases hlt : k < n
    · obtain ⟨b, off, z, rfl, hz, hcell⟩ := h.at_ hlt
      have hzr := hall.out z (List.mem_of_getElem? hz.out)
      obtain ⟨c, rfl⟩ : ∃ c : Nat, z = (c : Int) := ⟨z.toNat, by omega⟩
      have hcm : c < m := by omega
      obtain ⟨b', off', l, rfl, hl, hcell'⟩ := h'.at_ hcm
      have hk' : (k : Int) < (n : Int) := by omega
      have hk0 : (0 : Int) ≤ (k : Int) := by omega
      have hc0 : (0 : Int) ≤ (c : Int) := by omega
      have hcm' : (c : Int) < (m : Int) := by omega
      have hst : Hid (bFirst left (xs.drop k) = if l = false then (c : Int) else bFirst left (xs.drop (k + 1))) := Lib.hid (by
        rw [drop_cons' hz.out, bFirst, Int.toNat_natCast, List.getD_eq_getElem?_getD, hl.out]
        rfl)
      clear hz hl hzr
      cases l with
      | false =>
        go_wp2
        go_ret
        exact ⟨ret_int (by rw [hpre.out, hst.out]; simp), rfl⟩
      | true =>
        go_wp2
        go_round
        case rel => exact ⟨k + 1, by omega, by go_num, Lib.hid (by rw [hpre.out, hst.out]; simp)⟩
        case measure => simp [intOf]; omega
    · obtain rfl : k = n := by omega
      go_wp2
      go_ret
      exact ⟨ret_int (by rw [hpre.out, List.drop_of_length_le (by rw [hxl.out]; exact Nat.le_refl _)]; rfl), rfl⟩

set_option maxHeartbeats 400000 in
theorem c_ballot (s : ByteArray) (m : Int) (w : World) (hs : s.size ≤ 2000000) (hok : ballotOK (ballotOf s) 5 = true) :
    Calls Tryz.prog 92 #[.agg #[.string s, .int .i64 m]] w fun e w' => ∃ A c, e = .returned (.slice A s.size c) ∧ w.grownBy w' none ∧ Ints w' w.heap.size A s.size c (ballotOf s) := by
  have Hok := Lib.hid hok
  clear hok
  have hga := gb_alloc (gb_refl w none) (.cells #[.string s, .int .i64 m] 65)
  go_enter Tryz.func92, Tryz.ntmps92
  go_wp2_with fail
  refine (c_impl_BallotParse s _ hs).mono ?_
  rintro e w1 ⟨A, c, rfl, hg1, ho1⟩
  rw [Hok.out] at ho1
  rw [Hok.out]
  simp only [if_true] at ho1 ⊢
  have hI : Ints w1 w.heap.size A s.size c (ballotOf s) := (Sl.own ho1).mono hga.size
  clear ho1
  go_wp2
  go_ret
  exact ⟨A, c, rfl, gb_trans hga hg1, hI⟩

/-- Piles that fit so many candidates. -/
def fitOK (ps : List Pl) (n : Int) : Bool := inB n 1 5 && pilesOK ps && ps.all fun p => ballotOK (ballotOf p.1) n
theorem plOK_ballot {p : Pl} (h : plOK p = true) : ballotOK (ballotOf p.1) 5 = true := by
  unfold plOK at h
  rw [Bool.and_eq_true] at h
  exact h.1

set_option maxHeartbeats 1000000 in
theorem c_pilesFit (lo : Nat) (A : Option Addr) (n cap : Nat) (ps : List Pl) (m : Int) (w : World) (h : Piles w lo A n cap ps) (hs : ∀ p ∈ ps, p.1.size ≤ 2000000) :
    Calls Tryz.prog 83 #[.slice A n cap, .int .i64 m] w fun e w' => e = .returned (.bool (fitOK ps m)) ∧ w.grownBy w' none := by
  have hlc := h.1
  have hcm := Sl.max h
  have hxl := Lib.hid h.len
  have Hs := Lib.hid hs
  clear hs
  obtain ⟨V, hV⟩ : ∃ V, pilesOK ps = V := ⟨_, rfl⟩
  have HV := Lib.hid hV
  obtain ⟨Y, hY⟩ : ∃ Y, inB m 1 5 = Y := ⟨_, rfl⟩
  have HY := Lib.hid hY
  have hf : Hid (fitOK ps m = (Y && V && ps.all fun p => ballotOK (ballotOf p.1) m)) := Lib.hid (by rw [fitOK, hV, hY])
  clear hV hY
  go_enter Tryz.func83, Tryz.ntmps83
  go_wp2_with fail
  refine (c_isMany m _).mono ?_
  rintro e w1 ⟨rfl, rfl⟩
  rw [HY.out]
  cases Y with
  | false =>
    go_wp2
    go_ret
    exact ⟨ret_bool (by rw [hf.out]; rfl), gb_refl _ _⟩
  | true =>
    go_wp2_with fail
    refine (c_impl_PilesValid lo A n cap ps _ h Hs.out).mono ?_
    rintro e w2 ⟨rfl, hg2⟩
    rw [HV.out]
    cases V with
    | false =>
      go_wp2
      go_ret
      exact ⟨ret_bool (by rw [hf.out]; rfl), hg2⟩
    | true =>
      have hall := Lib.hid ((pilesOK_iff ps).1 HV.out).1
      go_wp2
      go_loopw [17] (fun i wr => ∃ k : Nat, k ≤ n ∧ i = .int .i64 k ∧ w.grownBy wr none ∧ Hid ((ps.take k).all (fun p => ballotOK (ballotOf p.1) m) = true)) (fun i _ => n - (intOf i).toNat)
      case atStart => exact ⟨0, Nat.zero_le _, rfl, hg2, Lib.hid rfl⟩
      case round =>
        obtain ⟨k, hk, rfl, hG, hpre⟩ := hrel
        rename World => wr
        by_cases hlt : k < n
        · obtain ⟨b, off, ⟨s, q⟩, rfl, _, _, hz, p0, p1⟩ := Piles.at_ (h.keep0 hG) hlt
          have hk' : (k : Int) < (n : Int) := by omega
          have hk0 : (0 : Int) ≤ (k : Int) := by omega
          have hmem := List.mem_of_getElem? hz.out
          have hpb := plOK_ballot (hall.out _ hmem)
          have hssz := Hs.out _ hmem
          have hga := gb_alloc (gb_refl wr none) (.cells #[.string s, .int .i64 q] 65)
          clear hmem
          go_wp2_with fail
          refine (c_ballot s q _ hssz hpb).mono ?_
          rintro e w3 ⟨B, c, rfl, hg3, hI3⟩
          have hG3 := gb_trans hG (gb_trans hga hg3)
          obtain ⟨N, hN⟩ : ∃ N, s.size = N := ⟨_, rfl⟩
          rw [hN] at hI3
          rw [hN]
          obtain ⟨D, hD⟩ : ∃ D, ballotOK (ballotOf s) m = D := ⟨_, rfl⟩
          have HD := Lib.hid hD
          clear hN hD hpb hssz hga hg3
          go_wp2_with fail
          refine (c_impl_BallotValid _ B N c (ballotOf s) m _ hI3).mono ?_
          rintro e w4 ⟨rfl, rfl⟩
          rw [HD.out]
          cases D with
          | false =>
            go_wp2
            go_ret
            exact ⟨ret_bool (by
              rw [hf.out]
              have : ps.all (fun p => ballotOK (ballotOf p.1) m) = false := by
                rw [List.all_eq_false]
                exact ⟨_, List.mem_of_getElem? hz.out, by simp [HD.out]⟩
              rw [this]; rfl), hG3⟩
          | true =>
            go_wp2
            go_roundw
            case rel => exact ⟨k + 1, by omega, by go_num, hG3, Lib.hid (by rw [take_succ_of hz.out, List.all_append, hpre.out]; simp [HD.out])⟩
            case measure => simp [intOf]; omega
        · obtain rfl : k = n := by omega
          go_wp2
          go_ret
          exact ⟨ret_bool (by
            have := hpre.out
            rw [List.take_of_length_le (by rw [hxl.out]; exact Nat.le_refl _)] at this
            rw [hf.out, this]; rfl), hG⟩

/-- More votes for one candidate. -/
def bump (cs : List Int) (c m : Int) : List Int := if 0 ≤ c then cs.set c.toNat (cs.getD c.toNat 0 + m) else cs
def fCounts (left : List Bool) (ps : List Pl) : List Int := ps.foldl (fun cs p => bump cs (bFirst left (ballotOf p.1)) p.2) (List.replicate left.length 0)
theorem bump_len (cs : List Int) (c m : Int) : (bump cs c m).length = cs.length := by unfold bump; split <;> simp
theorem fCounts_len (left : List Bool) (ps : List Pl) : (fCounts left ps).length = left.length := by
  unfold fCounts
  have : ∀ (cs : List Int), (ps.foldl (fun cs p => bump cs (bFirst left (ballotOf p.1)) p.2) cs).length = cs.length := by
    induction ps with
    | nil => intro cs; rfl
    | cons p ps ih => intro cs; rw [List.foldl_cons, ih, bump_len]
  rw [this, List.length_replicate]
theorem fCounts_snoc (left : List Bool) (ps : List Pl) (p : Pl) : fCounts left (ps ++ [p]) = bump (fCounts left ps) (bFirst left (ballotOf p.1)) p.2 := by
  simp [fCounts, List.foldl_append]
theorem bump_bound {cs : List Int} {c m M : Int} (h : ∀ z ∈ cs, 0 ≤ z ∧ z ≤ M) (hM : 0 ≤ M) (hm : 0 ≤ m ∧ m ≤ 99) : ∀ z ∈ bump cs c m, 0 ≤ z ∧ z ≤ M + 99 := by
  unfold bump
  split
  · intro z hz
    rcases List.mem_or_eq_of_mem_set hz with hz | rfl
    · have := h z hz; omega
    · rw [List.getD_eq_getElem?_getD]
      cases e : cs[c.toNat]? with
      | none => simp; omega
      | some y => have := h y (List.mem_of_getElem? e); simp; omega
  · intro z hz
    have := h z hz
    omega

attribute [local go_sem] flowAct flowOp_def flowUpon
set_option maxHeartbeats 2000000 in
theorem c_firstCounts (lo lo' : Nat) (A B : Option Addr) (n cap m cap' : Nat) (ps : List Pl) (left : List Bool) (w : World) (h : Piles w lo A n cap ps) (h' : Bls w lo' B m cap' left) (hs : ∀ p ∈ ps, p.1.size ≤ 2000000) (hfit : fitOK ps m = true) :
    Calls Tryz.prog 56 #[.slice A n cap, .slice B m cap'] w fun e w' => ∃ D, e = .returned (.slice D m m) ∧ w.grownBy w' none ∧ w'.ownsRow w.heap.size 3 1 (.slice D m m) m ((fCounts left ps).map (Value.int .i64)) := by
  have hlc := h.1
  have hcm := Sl.max h
  have hxl := Lib.hid h.len
  have hlc' := Sl.le h'
  have hcm' := Sl.max h'
  have hyl := Lib.hid h'.len
  have Hs := Lib.hid hs
  unfold fitOK at hfit
  rw [Bool.and_eq_true, Bool.and_eq_true] at hfit
  have hm5 : 1 ≤ m ∧ m ≤ 5 := by have h1 : 1 ≤ (m : Int) ∧ (m : Int) ≤ 5 := by simpa [inB] using hfit.1.1
                                 omega
  have hn12 : n ≤ 12 := by have := ((pilesOK_iff ps).1 hfit.1.2).2.2; have := hxl.out; omega
  have hall := Lib.hid ((pilesOK_iff ps).1 hfit.1.2).1
  have hfits := Lib.hid (List.all_eq_true.1 hfit.2)
  obtain ⟨hm1, hm5⟩ := hm5
  clear hs hfit
  have hmk := run_mk intE m (by omega) (by omega) w
  have hB0 : Blk (w.alloc (.cells (madeCells (Value.int .i64 0).cells (m * 1)) 3)) w.heap.size 3 (madeCells (Value.int .i64 0).cells (m * 1)) := Blk.new _ _ _
  have hown0 := own_of_blk (lo := w.heap.size) (size := 1) (n := m) hB0 (by rw [size_madeCells]) (by omega) (Nat.le_refl _)
  have hrep : (madeCells (Value.int .i64 0).cells (m * 1)).toList = (List.replicate m (0 : Int)).map (Value.int .i64) := by
    rw [List.map_replicate]
    apply List.ext_getElem?
    intro j
    rw [Array.getElem?_toList]
    by_cases hj : j < m
    · rw [List.getElem?_replicate, if_pos hj]
      simp [madeCells, hj, Value.cells, Nat.mod_one]
    · rw [Array.getElem?_eq_none (by rw [size_madeCells]; omega), List.getElem?_eq_none (by simp; omega)]
  rw [hrep] at hown0
  have hga := gb_alloc (gb_refl w none) (.cells (madeCells (Value.int .i64 0).cells (m * 1)) 3)
  obtain ⟨w0, hw0⟩ : ∃ w0, w.alloc (.cells (madeCells (Value.int .i64 0).cells (m * 1)) 3) = w0 := ⟨_, rfl⟩
  rw [hw0] at hmk hown0 hga
  clear hw0 hB0 hrep
  go_enter Tryz.func56, Tryz.ntmps56
  go_wp2
  clear hmk
  go_loopw [14] (fun i wr => ∃ k : Nat, k ≤ n ∧ i = .int .i64 k ∧ w.grownBy wr none ∧ wr.ownsRow w.heap.size 3 1 (.slice (some ⟨w.heap.size, 0, none⟩) m m) m ((fCounts left (ps.take k)).map (Value.int .i64)) ∧ Hid (∀ z ∈ fCounts left (ps.take k), 0 ≤ z ∧ z ≤ 99 * (k : Int))) (fun i _ => n - (intOf i).toNat)
  case atStart => exact ⟨0, Nat.zero_le _, rfl, hga, by rw [List.take_zero]; show World.ownsRow _ _ _ _ _ _ ((List.replicate left.length (0 : Int)).map _); rw [hyl.out]; exact hown0, Lib.hid (fun z hz => by
    rw [List.take_zero] at hz
    have hz : z ∈ List.replicate left.length (0 : Int) := hz
    have := (List.mem_replicate.1 hz).2
    omega)⟩
  case round =>
    obtain ⟨k, hk, rfl, hG, hown, hbd⟩ := hrel
    rename World => wr
    clear hown0
    by_cases hlt : k < n
    · obtain ⟨b, off, ⟨s, q⟩, rfl, _, _, hz, p0, p1⟩ := Piles.at_ (h.keep0 hG) hlt
      have hk' : (k : Int) < (n : Int) := by omega
      have hk0 : (0 : Int) ≤ (k : Int) := by omega
      have hmem := List.mem_of_getElem? hz.out
      have hpb := plOK_ballot (hall.out _ hmem)
      have hpm := plOK_many (hall.out _ hmem)
      have hft : ballotOK (ballotOf s) m = true := hfits.out _ hmem
      have hssz := Hs.out _ hmem
      have hga := gb_alloc (gb_refl wr none) (.cells #[.string s, .int .i64 q] 65)
      have hBk := Blk.new wr 65 #[.string s, .int .i64 q]
      have hstep : Hid (fCounts left (ps.take (k + 1)) = bump (fCounts left (ps.take k)) (bFirst left (ballotOf s)) q) := Lib.hid (by rw [take_succ_of hz.out, fCounts_snoc])
      have hbd' : Hid (∀ z ∈ bump (fCounts left (ps.take k)) (bFirst left (ballotOf s)) q, 0 ≤ z ∧ z ≤ 99 * ((k + 1 : Nat) : Int)) := Lib.hid (fun z hz' => by
        have := bump_bound (M := 99 * (k : Int)) hbd.out (by omega) (by have : 1 ≤ q ∧ q ≤ 99 := hpm; omega) z hz'
        omega)
      have hq0 : 0 ≤ q := by have : 1 ≤ q ∧ q ≤ 99 := hpm; omega
      have hq1 : q ≤ 99 := hpm.2
      have hfl := fCounts_len left (ps.take k)
      rw [hyl.out] at hfl
      clear hmem hpm
      go_wp2_with fail
      refine (c_ballot s q _ hssz hpb).mono ?_
      rintro e w3 ⟨B3, c3, rfl, hg3, hI3⟩
      have hB3 := hBk.grown hg3 (by simp)
      have hown3 := own_below hown (gb_trans hga hg3)
      have hG3 := gb_trans hG (gb_trans hga hg3)
      have h3' : Bls w3 lo' B m cap' left := Sl.keep0 h' hG3
      have hrg := bFirst_range (left := left) ((ballotOK_iff (ballotOf s) m).1 hft).2.2
      obtain ⟨N, hN⟩ : ∃ N, s.size = N := ⟨_, rfl⟩
      rw [hN] at hI3
      rw [hN]
      have hcall := c_BallotFirst _ _ B3 B N c3 m cap' (ballotOf s) left w3 hI3 h3' hft
      obtain ⟨cc, hcc⟩ : ∃ cc, bFirst left (ballotOf s) = cc := ⟨_, rfl⟩
      rw [hcc] at hcall hrg hstep hbd'
      have Hc := Lib.hid hcall
      have c1 := hB3.cell 1
      clear hN hpb hssz hga hg3 hBk hB3 hown hG hcall hcc hft hI3
      go_wp2_with fail
      refine Hc.out.mono ?_
      rintro e w4 ⟨rfl, rfl⟩
      clear Hc
      rcases hrg with rfl | ⟨hc0, hcm5⟩
      · go_wp2
        go_roundw
        case rel => exact ⟨k + 1, by omega, by go_num, hG3, by rw [hstep.out]; exact hown3, by rw [hstep.out]; exact hbd'⟩
        case measure => simp [intOf]; omega
      · obtain ⟨c, rfl⟩ : ∃ c : Nat, cc = (c : Int) := ⟨cc.toNat, by omega⟩
        have hcm : c < m := by omega
        have hcl : c < (fCounts left (ps.take k)).length := by rw [hfl]; exact hcm
        obtain ⟨F, hF⟩ : ∃ F, (fCounts left (ps.take k))[c]? = some F := ⟨_, List.getElem?_eq_getElem hcl⟩
        have hFb := hbd.out F (List.mem_of_getElem? hF)
        have hcell : w3.cell? ⟨w.heap.size, c, none⟩ = some (.int .i64 F) := by
          rw [hown3.cellAt c (by omega), List.getElem?_map, hF]
          rfl
        have hfro := hown3.frozenAt c
        obtain ⟨hst, hgs⟩ := hown3.stored c (.int .i64 (F + q))
        have hbump : Hid (bump (fCounts left (ps.take k)) (c : Int) q = (fCounts left (ps.take k)).set c (F + q)) := Lib.hid (by
          unfold bump
          rw [if_pos hc0, Int.toNat_natCast, List.getD_eq_getElem?_getD, hF]
          rfl)
        have hst' : w3.setCell ⟨w.heap.size, c, none⟩ (.int .i64 (F + q)) |>.ownsRow w.heap.size 3 1 (.slice (some ⟨w.heap.size, 0, none⟩) m m) m (((fCounts left (ps.take k)).set c (F + q)).map (Value.int .i64)) := by
          rw [List.map_set]; exact hst
        have hF0 : 0 ≤ F := hFb.1
        have hF1 : F ≤ 1188 := by have := hFb.2; omega
        have hadd : IntKind.i64.wrap (F + q) = F + q := IntWalk.i64_in _ (by omega)
        have hc00 : (0 : Int) ≤ (c : Int) := by omega
        have hcmi : (c : Int) < (m : Int) := by omega
        have Hst := Lib.hid hst'
        have HF := Lib.hid hF
        have HfK := Lib.hid (fun (x : World) (hx : w3.grownBy x none) => (own_below hown3 hx).frozenAt c)
        have HsK := Lib.hid (fun (x : World) (hx : w3.grownBy x none) => show (x.setCell ⟨w.heap.size, c, none⟩ (.int .i64 (F + q))).ownsRow w.heap.size 3 1 (.slice (some ⟨w.heap.size, 0, none⟩) m m) m (((fCounts left (ps.take k)).set c (F + q)).map (Value.int .i64)) from by rw [List.map_set]; exact ((own_below hown3 hx).stored c (.int .i64 (F + q))).1)
        clear hst hst' hF hFb hfl hgs
        go_wp2_with fail
        refine wp_known_tail w3 [_, _, _, _, _, _, _, _] _ [.slice (some ⟨w.heap.size, 0, none⟩) m m, .int .i64 c, .pointer (some ⟨w.heap.size, c, none⟩), .int .i64 F, .pointer (some ⟨wr.heap.size, 1, none⟩), .int .i64 q, .int .i64 (F + q), .pointer (some ⟨w.heap.size, c, none⟩)] rfl (gb_refl _ _) (by kernel_rfl) (by kernel_rfl) (by kernel_rfl) ?_ ?_
        · refine ⟨?_, ?_, ?_, ?_, ?_, ?_, ?_, ?_, trivial⟩
          all_goals
            intro nn u y hn hC hp
            simp [flowPreds, Region.binds, fKnown] at hp
            have n0 := gb_cell hC hcell (by simp)
            have n1 := gb_cell hC c1 (by simp)
            go_simp
          all_goals try exact ⟨gb_refl _ _, rfl⟩
        · intro u y hC hp'
          have e6 : u 6 = .int .i64 (F + q) := hp' 6 (by decide)
          have e7 : u 7 = .pointer (some ⟨w.heap.size, c, none⟩) := hp' 7 (by decide)
          have hfy := HfK.out y hC
          have hsy := HsK.out y hC
          have n0 := gb_cell hC hcell (by simp)
          go_simp
          go_wp2
          go_roundw
          case rel => exact ⟨k + 1, by omega, by go_num, gb_setCell (gb_trans hG3 hC) (.inr (Nat.le_refl _)) _, by rw [hstep.out, hbump.out]; exact hsy, by rw [hstep.out]; exact hbd'⟩
          case measure => simp [intOf]; omega
    · obtain rfl : k = n := by omega
      rw [List.take_of_length_le (by rw [hxl.out]; exact Nat.le_refl _)] at hown
      go_wp2
      go_ret
      exact ⟨_, rfl, hG, hown⟩

/-- First preferences, if the piles fit. -/
def fcRes (ps : List Pl) (left : List Bool) : List Int := if fitOK ps left.length then fCounts left ps else []
end Go.Proofs.YtboobimpoddacaaGreatDoor

namespace Go.Proofs.YtboobimpoddacaaGreatDoor
open Go.RowKit
set_option linter.unusedVariables false

theorem fCounts_nn {left : List Bool} {ps : List Pl} (h : ∀ p ∈ ps, 0 ≤ p.2 ∧ p.2 ≤ 99) : ∀ z ∈ fCounts left ps, 0 ≤ z ∧ z ≤ 99 * (ps.length : Int) := by
  unfold fCounts
  have key : ∀ (ps : List Pl) (cs : List Int) (M : Int), 0 ≤ M → (∀ p ∈ ps, 0 ≤ p.2 ∧ p.2 ≤ 99) → (∀ z ∈ cs, 0 ≤ z ∧ z ≤ M) → ∀ z ∈ ps.foldl (fun cs p => bump cs (bFirst left (ballotOf p.1)) p.2) cs, 0 ≤ z ∧ z ≤ M + 99 * (ps.length : Int) := by
    intro ps
    induction ps with
    | nil => intro cs M hM _ hcs z hz; have := hcs z hz; simp; exact this
    | cons p ps ih =>
      intro cs M hM hps hcs z hz
      have := ih (bump cs (bFirst left (ballotOf p.1)) p.2) (M + 99) (by omega) (fun q hq => hps q (List.mem_cons_of_mem _ hq)) (bump_bound hcs hM (hps p (by simp))) z hz
      rw [List.length_cons]
      omega
  intro z hz
  have := key ps _ 0 (by omega) h (fun z hz => by have := (List.mem_replicate.1 hz).2; omega) z hz
  omega
theorem fit_many {ps : List Pl} {n : Int} (h : fitOK ps n = true) : (∀ p ∈ ps, 0 ≤ p.2 ∧ p.2 ≤ 99) ∧ ps.length ≤ 12 ∧ 1 ≤ n ∧ n ≤ 5 := by
  unfold fitOK at h
  rw [Bool.and_eq_true, Bool.and_eq_true] at h
  have hn : 1 ≤ n ∧ n ≤ 5 := by simpa [inB] using h.1.1
  refine ⟨fun p hp => ?_, ((pilesOK_iff ps).1 h.1.2).2.2, hn⟩
  have : 1 ≤ p.2 ∧ p.2 ≤ 99 := plOK_many (((pilesOK_iff ps).1 h.1.2).1 p hp)
  omega

def iSum (cs : List Int) : Int := cs.foldl (· + ·) 0
def iMax (cs : List Int) : Int := cs.foldl max 0
theorem iSum_snoc (cs : List Int) (z : Int) : iSum (cs ++ [z]) = iSum cs + z := by simp [iSum]
theorem iMax_snoc (cs : List Int) (z : Int) : iMax (cs ++ [z]) = max (iMax cs) z := by simp [iMax]
/-- A candidate has more than half of all counts, or only one is left. -/
def rDone (cs : List Int) (left : List Bool) : Bool := decide (iSum cs < 2 * iMax cs) || decide (left.count false = 1)
def rStep (cs : List Int) (left : List Bool) (o c : Int) : Int := if left.getD c.toNat true = false ∧ (o < 0 ∨ cAt cs c ≤ cAt cs o) then c else o
/-- Who leaves. -/
def rOut (cs : List Int) (left : List Bool) (lots : List Int) : Int := lots.foldl (rStep cs left) (-1)
abbrev Rnd := List Int × Int
def rGo (ps : List Pl) (lots : List Int) : Nat → List Bool → List Rnd
  | 0, _ => []
  | f + 1, left => if rDone (fCounts left ps) left then [(fCounts left ps, -1)] else
      (fCounts left ps, rOut (fCounts left ps) left lots) :: rGo ps lots f (left.set (rOut (fCounts left ps) left lots).toNat true)
/-- The rounds of a runoff. -/
def rRounds (ps : List Pl) (lots : List Int) : List Rnd := rGo ps lots lots.length (List.replicate lots.length false)

/-- Stays: candidate c has not left. -/
def stays (left : List Bool) (c : Int) : Prop := left.getD c.toNat true = false
theorem stays_at {left : List Bool} {c : Int} (h : stays left c) : left[c.toNat]? = some false := by
  unfold stays at h
  rw [List.getD_eq_getElem?_getD] at h
  cases e : left[c.toNat]? with
  | none => rw [e] at h; cases h
  | some b => rw [e] at h; simp at h; rw [h]
theorem count_stays {left : List Bool} (h : 1 ≤ left.count false) : ∃ k : Nat, k < left.length ∧ left[k]? = some false := by
  have := List.count_pos_iff.1 (show 0 < left.count false by omega)
  obtain ⟨k, hk⟩ := List.mem_iff_getElem?.1 this
  exact ⟨k, (List.getElem?_eq_some_iff.1 hk).1, hk⟩
theorem rOut_pre {cs : List Int} {left : List Bool} : ∀ (l : List Int), (∀ c ∈ l, 0 ≤ c) → (l.foldl (rStep cs left) (-1) = -1 ∧ ∀ c ∈ l, ¬ stays left c) ∨ (l.foldl (rStep cs left) (-1) ∈ l ∧ stays left (l.foldl (rStep cs left) (-1)) ∧ ∀ c ∈ l, stays left c → cAt cs (l.foldl (rStep cs left) (-1)) ≤ cAt cs c) := by
  intro l
  induction l using snocInd with
  | nil => intro _; exact .inl ⟨rfl, by simp⟩
  | append_singleton l c ih =>
    intro h0
    have ih := ih (fun d hd => h0 d (by simp [hd]))
    rw [List.foldl_append, List.foldl_cons, List.foldl_nil]
    obtain ⟨o, ho⟩ : ∃ o, l.foldl (rStep cs left) (-1) = o := ⟨_, rfl⟩
    rw [ho] at ih ⊢
    by_cases hs : stays left c
    · rcases ih with ⟨rfl, h2⟩ | ⟨h1, h2, h3⟩
      · have e : rStep cs left (-1) c = c := by unfold rStep; rw [if_pos ⟨hs, .inl (by omega)⟩]
        rw [e]
        refine .inr ⟨by simp, hs, fun d hd hsd => ?_⟩
        rcases List.mem_append.1 hd with hd | hd
        · exact absurd hsd (h2 d hd)
        · rw [List.mem_singleton.1 hd]; exact Int.le_refl _
      · have ho0 : 0 ≤ o := h0 o (by simp [h1])
        by_cases hle : cAt cs c ≤ cAt cs o
        · have e : rStep cs left o c = c := by unfold rStep; rw [if_pos ⟨hs, .inr hle⟩]
          rw [e]
          refine .inr ⟨by simp, hs, fun d hd hsd => ?_⟩
          rcases List.mem_append.1 hd with hd | hd
          · have := h3 d hd hsd; omega
          · rw [List.mem_singleton.1 hd]; exact Int.le_refl _
        · have e : rStep cs left o c = o := by unfold rStep; rw [if_neg (by rintro ⟨_, h | h⟩; omega; exact hle h)]
          rw [e]
          refine .inr ⟨by simp [h1], h2, fun d hd hsd => ?_⟩
          rcases List.mem_append.1 hd with hd | hd
          · exact h3 d hd hsd
          · rw [List.mem_singleton.1 hd]; omega
    · have e : rStep cs left o c = o := by unfold rStep; rw [if_neg (by rintro ⟨h, _⟩; exact hs h)]
      rw [e]
      rcases ih with ⟨h1, h2⟩ | ⟨h1, h2, h3⟩
      · refine .inl ⟨h1, fun d hd => ?_⟩
        rcases List.mem_append.1 hd with hd | hd
        · exact h2 d hd
        · rw [List.mem_singleton.1 hd]; exact hs
      · refine .inr ⟨by simp [h1], h2, fun d hd hsd => ?_⟩
        rcases List.mem_append.1 hd with hd | hd
        · exact h3 d hd hsd
        · rw [List.mem_singleton.1 hd] at hsd; exact absurd hsd hs
theorem rOut_spec {n : Nat} {cs : List Int} {left : List Bool} {lots : List Int} (hp : lots.Perm (iota n)) (hl : left.length = n) (hc : 1 ≤ left.count false) :
    rOut cs left lots ∈ lots ∧ stays left (rOut cs left lots) ∧ ∀ c ∈ lots, stays left c → cAt cs (rOut cs left lots) ≤ cAt cs c := by
  rcases rOut_pre (cs := cs) (left := left) lots (fun c hc => (mem_iota.1 (hp.mem_iff.1 hc)).1) with ⟨h1, h2⟩ | h
  · obtain ⟨k, hk, hs⟩ := count_stays hc
    refine absurd ?_ (h2 (k : Int) (hp.mem_iff.2 (mem_iota.2 (by omega))))
    unfold stays
    rw [Int.toNat_natCast, List.getD_eq_getElem?_getD, hs]
    rfl
  · exact h
theorem count_set {left : List Bool} {k : Nat} (h : left[k]? = some false) : (left.set k true).count false + 1 = left.count false := by
  induction left generalizing k with
  | nil => simp at h
  | cons b l ih =>
    cases k with
    | zero => simp at h; subst h; simp
    | succ k =>
      have := ih (k := k) (by simpa using h)
      rw [List.set_cons_succ, List.count_cons, List.count_cons]
      omega
theorem rOut_count {n : Nat} {cs : List Int} {left : List Bool} {lots : List Int} (hp : lots.Perm (iota n)) (hl : left.length = n) (hc : 1 ≤ left.count false) :
    ∃ k : Nat, rOut cs left lots = (k : Int) ∧ k < n ∧ left[k]? = some false ∧ (left.set k true).count false + 1 = left.count false := by
  obtain ⟨h1, h2, _⟩ := rOut_spec (cs := cs) hp hl hc
  have hr := mem_iota.1 (hp.mem_iff.1 h1)
  have h3 := stays_at h2
  exact ⟨(rOut cs left lots).toNat, by omega, by omega, h3, count_set h3⟩

/-- The reference's first of the least ones. -/
def fStep (cs : List Int) (left : List Bool) (b c : Int) : Int := if left.getD c.toNat true = false ∧ (b < 0 ∨ cAt cs c < cAt cs b) then c else b
def sStep (cs : List Int) (left : List Bool) (b c : Int) : Int := if left.getD c.toNat true = false ∧ cAt cs c = cAt cs b then c else b
def sLeast (cs : List Int) (left : List Bool) (lots : List Int) (n : Nat) : Int := lots.foldl (sStep cs left) ((iota n).foldl (fStep cs left) (-1))
theorem fPre {cs : List Int} {left : List Bool} : ∀ (k : Nat), ((iota k).foldl (fStep cs left) (-1) = -1 ∧ ∀ c ∈ iota k, ¬ stays left c) ∨ ((iota k).foldl (fStep cs left) (-1) ∈ iota k ∧ stays left ((iota k).foldl (fStep cs left) (-1)) ∧ ∀ c ∈ iota k, stays left c → cAt cs ((iota k).foldl (fStep cs left) (-1)) ≤ cAt cs c) := by
  intro k
  induction k with
  | zero => exact .inl ⟨rfl, by simp [iota]⟩
  | succ k ih =>
    rw [iota_succ, List.foldl_append, List.foldl_cons, List.foldl_nil]
    obtain ⟨o, ho⟩ : ∃ o, (iota k).foldl (fStep cs left) (-1) = o := ⟨_, rfl⟩
    rw [ho] at ih ⊢
    by_cases hs : stays left (k : Int)
    · rcases ih with ⟨rfl, h2⟩ | ⟨h1, h2, h3⟩
      · have e : fStep cs left (-1) (k : Int) = k := by unfold fStep; rw [if_pos ⟨hs, .inl (by omega)⟩]
        rw [e]
        refine .inr ⟨by simp, hs, fun d hd hsd => ?_⟩
        rcases List.mem_append.1 hd with hd | hd
        · exact absurd hsd (h2 d hd)
        · rw [List.mem_singleton.1 hd]; exact Int.le_refl _
      · have ho0 : 0 ≤ o := (mem_iota.1 h1).1
        by_cases hle : cAt cs (k : Int) < cAt cs o
        · have e : fStep cs left o (k : Int) = k := by unfold fStep; rw [if_pos ⟨hs, .inr hle⟩]
          rw [e]
          refine .inr ⟨by simp, hs, fun d hd hsd => ?_⟩
          rcases List.mem_append.1 hd with hd | hd
          · have := h3 d hd hsd; omega
          · rw [List.mem_singleton.1 hd]; exact Int.le_refl _
        · have e : fStep cs left o (k : Int) = o := by unfold fStep; rw [if_neg (by rintro ⟨_, h | h⟩; omega; exact hle h)]
          rw [e]
          refine .inr ⟨by simp [h1], h2, fun d hd hsd => ?_⟩
          rcases List.mem_append.1 hd with hd | hd
          · exact h3 d hd hsd
          · rw [List.mem_singleton.1 hd]; omega
    · have e : fStep cs left o (k : Int) = o := by unfold fStep; rw [if_neg (by rintro ⟨h, _⟩; exact hs h)]
      rw [e]
      rcases ih with ⟨h1, h2⟩ | ⟨h1, h2, h3⟩
      · refine .inl ⟨h1, fun d hd => ?_⟩
        rcases List.mem_append.1 hd with hd | hd
        · exact h2 d hd
        · rw [List.mem_singleton.1 hd]; exact hs
      · refine .inr ⟨by simp [h1], h2, fun d hd hsd => ?_⟩
        rcases List.mem_append.1 hd with hd | hd
        · exact h3 d hd hsd
        · rw [List.mem_singleton.1 hd] at hsd; exact absurd hsd hs
/-- Both walks through the lots, side by side. -/
theorem two_least {cs : List Int} {left : List Bool} {m b0 : Int} (hb0 : cAt cs b0 = m) (hm : ∀ c, stays left c → c ∈ ([] : List Int) ∨ True) : ∀ (l : List Int), (∀ c ∈ l, 0 ≤ c) → (∀ c ∈ l, stays left c → m ≤ cAt cs c) →
    cAt cs (l.foldl (sStep cs left) b0) = m ∧ ((0 ≤ l.foldl (rStep cs left) (-1) ∧ l.foldl (rStep cs left) (-1) = l.foldl (sStep cs left) b0) ∨
      ((l.foldl (rStep cs left) (-1) < 0 ∨ m < cAt cs (l.foldl (rStep cs left) (-1))) ∧ ∀ d ∈ l, stays left d → m < cAt cs d)) := by
  intro l
  induction l using snocInd with
  | nil => intro _ _; exact ⟨hb0, .inr ⟨.inl (show (-1 : Int) < 0 by decide), by simp⟩⟩
  | append_singleton l c ih =>
    intro h0 hl
    obtain ⟨i1, i2⟩ := ih (fun d hd => h0 d (by simp [hd])) (fun d hd => hl d (by simp [hd]))
    rw [List.foldl_append, List.foldl_cons, List.foldl_nil, List.foldl_append, List.foldl_cons, List.foldl_nil]
    obtain ⟨o, ho⟩ : ∃ o, l.foldl (rStep cs left) (-1) = o := ⟨_, rfl⟩
    obtain ⟨b, hb⟩ : ∃ b, l.foldl (sStep cs left) b0 = b := ⟨_, rfl⟩
    rw [ho, hb] at i2
    rw [hb] at i1
    rw [ho, hb]
    by_cases hs : stays left c
    · have hmc := hl c (by simp) hs
      by_cases he : cAt cs c = m
      · have e1 : sStep cs left b c = c := by unfold sStep; rw [if_pos ⟨hs, by rw [he, i1]⟩]
        have e2 : rStep cs left o c = c := by
          have hor : o < 0 ∨ cAt cs c ≤ cAt cs o := by
            rcases i2 with ⟨h1, h2⟩ | ⟨h1 | h1, h2⟩
            · right; rw [h2, i1]; omega
            · exact .inl h1
            · right; omega
          unfold rStep
          rw [if_pos ⟨hs, hor⟩]
        rw [e1, e2]
        exact ⟨he, .inl ⟨h0 c (by simp), rfl⟩⟩
      · have e1 : sStep cs left b c = b := by unfold sStep; rw [if_neg (by rintro ⟨_, h⟩; rw [i1] at h; exact he h)]
        rw [e1]
        refine ⟨i1, ?_⟩
        rcases i2 with ⟨h1, h2⟩ | ⟨h1, h2⟩
        · left
          have e2 : rStep cs left o c = o := by
            unfold rStep
            rw [if_neg]
            rintro ⟨_, h | h⟩
            · omega
            · rw [h2, i1] at h; omega
          rw [e2]
          exact ⟨h1, h2⟩
        · right
          refine ⟨?_, fun d hd hsd => ?_⟩
          · unfold rStep
            split
            · right; omega
            · exact h1
          · rcases List.mem_append.1 hd with hd | hd
            · exact h2 d hd hsd
            · rw [List.mem_singleton.1 hd]; omega
    · have e1 : sStep cs left b c = b := by unfold sStep; rw [if_neg (by rintro ⟨h, _⟩; exact hs h)]
      have e2 : rStep cs left o c = o := by unfold rStep; rw [if_neg (by rintro ⟨h, _⟩; exact hs h)]
      rw [e1, e2]
      refine ⟨i1, ?_⟩
      rcases i2 with h | ⟨h1, h2⟩
      · exact .inl h
      · refine .inr ⟨h1, fun d hd hsd => ?_⟩
        rcases List.mem_append.1 hd with hd | hd
        · exact h2 d hd hsd
        · rw [List.mem_singleton.1 hd] at hsd; exact absurd hsd hs
theorem sLeast_eq {n : Nat} {cs : List Int} {left : List Bool} {lots : List Int} (hp : lots.Perm (iota n)) (hl : left.length = n) (hc : 1 ≤ left.count false) : sLeast cs left lots n = rOut cs left lots := by
  obtain ⟨k, hk, hs⟩ := count_stays hc
  have hsk : stays left (k : Int) := by
    unfold stays
    rw [Int.toNat_natCast, List.getD_eq_getElem?_getD, hs]
    rfl
  rcases fPre (cs := cs) (left := left) n with ⟨h1, h2⟩ | ⟨h1, h2, h3⟩
  · exact absurd hsk (h2 _ (mem_iota.2 (by omega)))
  · unfold sLeast rOut
    obtain ⟨b0, hb0⟩ : ∃ b, (iota n).foldl (fStep cs left) (-1) = b := ⟨_, rfl⟩
    rw [hb0] at h1 h2 h3 ⊢
    obtain ⟨_, h | ⟨_, h⟩⟩ := two_least (cs := cs) (left := left) (m := cAt cs b0) (b0 := b0) rfl (fun _ _ => .inr trivial) lots (fun c hc => (mem_iota.1 (hp.mem_iff.1 hc)).1) (fun c hc hsc => h3 c (hp.mem_iff.1 hc) hsc)
    · exact h.2.symm
    · have := h b0 (hp.mem_iff.2 h1) h2
      omega

/-- The marks of those who left. -/
def goneOf (left : List Bool) (rs : List Rnd) : List Bool := rs.foldl (fun l r => l.set r.2.toNat true) left
def cutOf (cs : List Int) (rs : List Rnd) : List Int := rs.foldl (fun l r => l.set r.2.toNat (-1)) cs
theorem goneOf_len (rs : List Rnd) : ∀ left : List Bool, (goneOf left rs).length = left.length := by
  induction rs with
  | nil => intro _; rfl
  | cons r rs ih => intro left; show (goneOf (left.set r.2.toNat true) rs).length = _; rw [ih, List.length_set]
theorem rGo_shape {n : Nat} {ps : List Pl} {lots : List Int} (hp : lots.Perm (iota n)) : ∀ (f : Nat) (left : List Bool), left.length = n → left.count false = f → 1 ≤ f →
    ∃ ini, rGo ps lots f left = ini ++ [(fCounts (goneOf left ini) ps, -1)] ∧ 1 ≤ (goneOf left ini).count false ∧ (∀ r ∈ ini, ∃ k : Nat, r.2 = (k : Int) ∧ k < n) ∧ (∀ r ∈ ini, r.1.length = n) ∧ ini.length + 1 ≤ f
  | 0, left, _, _, h => by omega
  | f + 1, left, hl, hc, _ => by
    rw [rGo]
    by_cases hd : rDone (fCounts left ps) left = true
    · rw [if_pos hd]
      exact ⟨[], rfl, by show 1 ≤ left.count false; omega, by simp, by simp, by simp⟩
    · rw [if_neg hd]
      obtain ⟨k, hk, hkn, hks, hkc⟩ := rOut_count (cs := fCounts left ps) hp hl (by omega)
      rw [hk, Int.toNat_natCast]
      have hf : f ≠ 0 := by
        intro e
        apply hd
        unfold rDone
        rw [hc, e]
        simp
      obtain ⟨ini, e, h1, h2, h3, h4⟩ := rGo_shape (ps := ps) hp f (left.set k true) (by rw [List.length_set, hl]) (by omega) (by omega)
      refine ⟨(fCounts left ps, (k : Int)) :: ini, by rw [e]; rfl, ?_, fun r hr => ?_, fun r hr => ?_, by rw [List.length_cons]; omega⟩
      · exact h1
      · rcases List.mem_cons.1 hr with rfl | hr
        · exact ⟨k, rfl, hkn⟩
        · exact h2 r hr
      · rcases List.mem_cons.1 hr with rfl | hr
        · show (fCounts left ps).length = n
          rw [fCounts_len, hl]
        · exact h3 r hr

theorem cut_set (cs : List Int) (left : List Bool) (k : Nat) : cutB cs ((left.set k true).map (!·)) = (cutB cs (left.map (!·))).set k (-1) := by
  unfold cutB
  apply List.ext_getElem?
  intro i
  rw [List.getElem?_map]
  by_cases hi : i = k
  · subst hi
    cases h : cs[i]? with
    | none =>
      have h1 : cs.length ≤ i := by rwa [List.getElem?_eq_none_iff] at h
      rw [List.getElem?_eq_none (by simp; omega), List.getElem?_eq_none (by simp; omega)]
      rfl
    | some z =>
      have hic : i < cs.length := (List.getElem?_eq_some_iff.1 h).1
      cases h2 : left[i]? with
      | none =>
        have h1 : left.length ≤ i := by rwa [List.getElem?_eq_none_iff] at h2
        rw [List.getElem?_eq_none (by simp; omega), List.getElem?_eq_none (by simp; omega)]
        rfl
      | some b =>
        have hil : i < left.length := (List.getElem?_eq_some_iff.1 h2).1
        have e1 : (cs.zip ((left.set i true).map (!·)))[i]? = some (z, false) := by
          rw [List.getElem?_zip_eq_some]
          refine ⟨h, ?_⟩
          rw [List.getElem?_map, List.getElem?_set_self hil]
          rfl
        rw [e1, List.getElem?_set_self (by simp; omega)]
        rfl
  · rw [List.getElem?_set_ne (fun e => hi e.symm), List.getElem?_map]
    congr 1
    simp only [List.zip, List.getElem?_zipWith, List.getElem?_map, List.getElem?_set_ne (fun e => hi (Eq.symm e))]
theorem cutB_falses (cs : List Int) : cutB cs ((List.replicate cs.length false).map (!·)) = cs := by
  rw [List.map_replicate]
  exact cutB_all cs
theorem cut_gone (cs : List Int) (rs : List Rnd) : ∀ left : List Bool, cutOf (cutB cs (left.map (!·))) rs = cutB cs ((goneOf left rs).map (!·)) := by
  induction rs with
  | nil => intro _; rfl
  | cons r rs ih =>
    intro left
    show cutOf ((cutB cs (left.map (!·))).set r.2.toNat (-1)) rs = cutB cs ((goneOf (left.set r.2.toNat true) rs).map (!·))
    rw [← cut_set, ih]
/-- The winner of a runoff. -/
def rWin (rs : List Rnd) (lots : List Int) : Int := gBest (cutOf (rs.getLastD ([], -1)).1 rs.dropLast) lots
def rWinS (rs : List Rnd) (lots : List Int) : Int := firstOf lots (mostB (rs.getLastD ([], -1)).1 ((goneOf (List.replicate lots.length false) rs.dropLast).map (!·)))
theorem rWin_eq {n : Nat} {ps : List Pl} {lots : List Int} (hp : lots.Perm (iota n)) (hn : 1 ≤ n) (hps : ∀ p ∈ ps, 0 ≤ p.2 ∧ p.2 ≤ 99) : rWinS (rRounds ps lots) lots = rWin (rRounds ps lots) lots := by
  have hll : lots.length = n := by rw [hp.length_eq, iota_len]
  obtain ⟨ini, e, h1, _, _, _⟩ := rGo_shape (ps := ps) hp n (List.replicate n false) (by simp) (by simp) hn
  unfold rWinS rWin rRounds
  rw [hll, e, show ∀ (l : List Rnd) (a d : Rnd), (l ++ [a]).getLastD d = a from fun l a d => by simp [List.getLastD_eq_getLast?], List.dropLast_concat]
  obtain ⟨G, hG⟩ : ∃ G, goneOf (List.replicate n false) ini = G := ⟨_, rfl⟩
  have hGl : G.length = n := by rw [← hG, goneOf_len]; simp
  have hcl : (fCounts G ps).length = n := by rw [fCounts_len, hGl]
  have hcut := cut_gone (fCounts G ps) ini (List.replicate (fCounts G ps).length false)
  rw [cutB_falses] at hcut
  rw [hG] at h1 ⊢
  obtain ⟨k, hk, hks⟩ := count_stays h1
  show firstOf lots (mostB (fCounts G ps) (G.map (!·))) = gBest (cutOf (fCounts G ps) ini) lots
  rw [hcut, hcl, hG]
  refine most_first hp hcl (by rw [List.length_map, hGl]) (fun z hz => (fCounts_nn hps z hz).1) ⟨k, by omega, ?_⟩
  rw [List.getElem?_map, hks]
  rfl
end Go.Proofs.YtboobimpoddacaaGreatDoor

namespace Go.Proofs.YtboobimpoddacaaGreatDoor
open Go.RowKit
set_option linter.unusedVariables false

abbrev intEz : Value := .int .i64 0
abbrev strEz : Value := .string ⟨#[]⟩






end Go.Proofs.YtboobimpoddacaaGreatDoor

namespace Go.Proofs.YtboobimpoddacaaGreatDoor
open Go.RowKit
set_option linter.unusedVariables false

abbrev Row := List Int
def tabCell (x : Row × Hd) : Value := .slice x.2.1 x.1.length x.2.2
def tabCells (yss : List Row) (hs : List Hd) : List Value := (yss.zip hs).map tabCell
theorem tabCells_len {yss : List Row} {hs : List Hd} (h : hs.length = yss.length) : (tabCells yss hs).length = yss.length := by simp [tabCells, h]
theorem tabCells_at {yss : List Row} {hs : List Hd} {k : Nat} {ys : Row} {d : Hd} (h1 : yss[k]? = some ys) (h2 : hs[k]? = some d) : (tabCells yss hs)[k]? = some (.slice d.1 ys.length d.2) := by
  have hz : (yss.zip hs)[k]? = some (ys, d) := by rw [List.getElem?_zip_eq_some]; exact ⟨h1, h2⟩
  unfold tabCells
  rw [List.getElem?_map, hz]
  rfl
theorem tabCells_push {yss : List Row} {hs : List Hd} (h : hs.length = yss.length) (ys : Row) (d : Hd) : tabCells (yss ++ [ys]) (hs ++ [d]) = tabCells yss hs ++ [.slice d.1 ys.length d.2] := by
  unfold tabCells
  rw [List.zip_append h.symm, List.map_append]
  rfl
/-- A slice of rows that reads as a table. -/
def IRows (w : World) (lo : Nat) (A : Option Addr) (n cap : Nat) (yss : List Row) : Prop :=
  ∃ hs : List Hd, hs.length = yss.length ∧ Sl w lo 1 A n cap (tabCells yss hs) ∧ ∀ (k : Nat) (ys : Row) (d : Hd), yss[k]? = some ys → hs[k]? = some d → Ints w lo d.1 ys.length d.2 ys
section
variable {w w' : World} {lo lo' n cap k : Nat} {A : Option Addr} {yss : List Row}
theorem IRows.len (h : IRows w lo A n cap yss) : yss.length = n := by
  obtain ⟨hs, hl, h1, _⟩ := h
  have := h1.2.2.1
  rw [tabCells_len hl] at this
  omega
theorem IRows.le (h : IRows w lo A n cap yss) : n ≤ cap := by obtain ⟨_, _, h1, _⟩ := h; exact h1.1
theorem IRows.max (h : IRows w lo A n cap yss) : cap ≤ 9223372036854775807 := by obtain ⟨_, _, h1, _⟩ := h; exact Sl.max h1
theorem IRows.keep0 (h : IRows w lo A n cap yss) (hg : w.grownBy w' none) : IRows w' lo A n cap yss := by
  obtain ⟨hs, hl, h1, h2⟩ := h
  exact ⟨hs, hl, h1.keep0 hg, fun k x y hx hy => Sl.keep0 (h2 k x y hx hy) hg⟩
theorem IRows.mono (h : IRows w lo A n cap yss) (hl' : lo' ≤ lo) : IRows w lo' A n cap yss := by
  obtain ⟨hs, hl, h1, h2⟩ := h
  exact ⟨hs, hl, h1.mono hl', fun k x y hx hy => Sl.mono (h2 k x y hx hy) hl'⟩
theorem IRows.at_ (h : IRows w lo A n cap yss) (hk : k < n) : ∃ b off ys A' c', A = some ⟨b, off, none⟩ ∧ Hid (yss[k]? = some ys) ∧ Ints w lo A' ys.length c' ys ∧ w.cell? ⟨b, off + k, none⟩ = some (.slice A' ys.length c') := by
  have hxl := h.len
  obtain ⟨hs, hl, h1, h2⟩ := h
  obtain ⟨b, off, rfl, hlo, hb, hc⟩ := h1.2.2.2 (by omega)
  have hx : yss[k]? = some yss[k] := List.getElem?_eq_getElem (by omega)
  have hh : hs[k]? = some hs[k] := List.getElem?_eq_getElem (by omega)
  exact ⟨b, off, yss[k], (hs[k]).1, (hs[k]).2, rfl, Lib.hid hx, h2 k _ _ hx hh, hc k _ (tabCells_at hx hh)⟩
end

/-- Rows of the call's own: their list at A, the rows at hs; all blocks lie from lo on, below hi, apart. -/
structure OwnRows (it t : TypeId) (w : World) (lo hi : Nat) (A : Option Addr) (n cap : Nat) (yss : List Row) (hs : List Hd) : Prop where
  len : hs.length = yss.length
  row : w.ownsRow lo t 1 (.slice A n cap) n (tabCells yss hs)
  rows : ∀ (k : Nat) (ys : Row) (d : Hd), yss[k]? = some ys → hs[k]? = some d → w.ownsRow lo it 1 (.slice d.1 ys.length d.2) ys.length (ys.map (Value.int .i64))
  apart : Apart ((Value.slice A n cap).ownBlock :: hs.map hdBlk)
  bnd : ∀ g, some g ∈ (Value.slice A n cap).ownBlock :: hs.map hdBlk → g < hi
section
variable {it t : TypeId} {w w' : World} {lo hi n cap k : Nat} {A : Option Addr} {yss : List Row} {hs : List Hd}
theorem OwnRows.xlen (h : OwnRows it t w lo hi A n cap yss hs) : yss.length = n := by
  have := h.row.1
  rw [tabCells_len h.len] at this
  omega
theorem OwnRows.irows (h : OwnRows it t w lo hi A n cap yss hs) : IRows w lo A n cap yss :=
  ⟨hs, h.len, Sl.own h.row, fun k x y hx hy => Sl.own (h.rows k x y hx hy)⟩
theorem OwnRows.keep (h : OwnRows it t w lo hi A n cap yss hs) (hg : w.grownBy w' none) : OwnRows it t w' lo hi A n cap yss hs :=
  ⟨h.len, own_below h.row hg, fun k x y hx hy => own_below (h.rows k x y hx hy) hg, h.apart, h.bnd⟩
theorem OwnRows.span {L H : Nat} (h : OwnRows it t w L H A n cap yss hs) (hsp : Span lo hi w w') (hl : hi ≤ L ∨ H ≤ lo) : OwnRows it t w' L H A n cap yss hs := by
  have hb : ∀ {v : Value}, v.ownBlock ∈ (Value.slice A n cap).ownBlock :: hs.map hdBlk → hi ≤ L ∨ ∀ g, v.ownBlock = some g → g < lo := by
    intro v hv
    rcases hl with hl | hl
    · exact .inl hl
    · exact .inr (fun g e => by have := h.bnd g (by rw [← e]; exact hv); omega)
  refine ⟨h.len, own_span (H := 0) h.row hsp (hb (by simp)), fun k x y hx hy => own_span (H := 0) (h.rows k x y hx hy) hsp (hb ?_), h.apart, h.bnd⟩
  rw [ownBlock_any y.1 x.length 0 y.2 y.2]
  exact List.mem_cons_of_mem _ (List.mem_map.2 ⟨y, List.mem_of_getElem? hy, rfl⟩)
theorem OwnRows.below (h : OwnRows it t w lo hi A n cap yss hs) (hb : Below hi w w') : OwnRows it t w' lo hi A n cap yss hs :=
  h.span (lo := hi) (hi := w.heap.size) ⟨hb.os, hb.tape, hb.output, hb.size, fun i hi' hl => hb.block i (by omega)⟩ (.inr (Nat.le_refl _))
theorem OwnRows.wide {lo' hi' : Nat} (h : OwnRows it t w lo hi A n cap yss hs) (hl : lo' ≤ lo) (hh : hi ≤ hi') : OwnRows it t w lo' hi' A n cap yss hs :=
  ⟨h.len, own_lo h.row hl, fun k x y hx hy => own_lo (h.rows k x y hx hy) hl, h.apart, fun g hg => Nat.lt_of_lt_of_le (h.bnd g hg) hh⟩
theorem OwnRows.nil (it t : TypeId) (w : World) (lo hi : Nat) : OwnRows it t w lo hi none 0 0 [] [] :=
  ⟨rfl, own_nil _ _ _ _, fun k x y hx => by simp at hx, by simp [Apart], fun g hg => by simp [Value.ownBlock] at hg⟩
theorem OwnRows.empty (it t : TypeId) (w : World) (lo : Nat) (hl : lo ≤ w.heap.size) : OwnRows it t (w.alloc (.cells #[] t)) lo (w.heap.size + 1) (some ⟨w.heap.size, 0, none⟩) 0 0 [] [] :=
  ⟨rfl, own_empty _ _ _ _ hl, fun k x y hx => by simp at hx, by simp [Apart], fun g hg => by simp [Value.ownBlock] at hg; omega⟩
/-- One more row: what an append leaves. The new row lies from hi on. -/
theorem OwnRows.push (h : OwnRows it t w lo hi A n cap yss hs) {A' : Option Addr} {c' : Nat} {ys : Row} {d : Hd} (hy : w.ownsRow hi it 1 (.slice d.1 ys.length d.2) ys.length (ys.map (Value.int .i64))) (hlo : lo ≤ hi)
    (hown : w'.ownsRow lo t 1 (.slice A' (n + 1) c') (n + 1) (tabCells yss hs ++ [.slice d.1 ys.length d.2])) (hg : w.grownBy w' (Value.slice A n cap).ownBlock)
    (hat : (Value.slice A' (n + 1) c').ownBlock = (Value.slice A n cap).ownBlock ∨ ∃ g, (Value.slice A' (n + 1) c').ownBlock = some g ∧ w.heap.size ≤ g) (hhi : hi ≤ w.heap.size) :
    OwnRows it t w' lo w'.heap.size A' (n + 1) c' (yss ++ [ys]) (hs ++ [d]) := by
  have hdb : (Value.slice d.1 ys.length d.2).ownBlock = hdBlk d := ownBlock_any _ _ _ _ _
  have hdn : ∀ g, hdBlk d = some g → hi ≤ g ∧ g < w.heap.size := fun g e => hy.lt g (by rw [hdb]; exact e)
  have hAo : ∀ g, (Value.slice A n cap).ownBlock = some g → g < hi := fun g e => h.bnd g (by rw [← e]; simp)
  have hold : ∀ a ∈ hs.map hdBlk, ∀ g, a = some g → g < hi := fun a ha g e => h.bnd g (by rw [← e]; exact List.mem_cons_of_mem _ ha)
  have hnew : ∀ a ∈ hs.map hdBlk ++ [hdBlk d], a = none ∨ a ≠ (Value.slice A n cap).ownBlock := by
    intro a ha
    rcases List.mem_append.1 ha with ha | ha
    · obtain ⟨j, hj⟩ := List.mem_iff_getElem?.1 ha
      exact apart_at h.apart (i := j + 1) (j := 0) (by simpa using hj) rfl (by omega)
    · rw [List.mem_singleton.1 ha]
      cases e : hdBlk d with
      | none => exact .inl rfl
      | some g =>
        refine .inr (fun e' => ?_)
        have := (hdn g e).1
        have := hAo g e'.symm
        omega
  have hblt : ∀ a ∈ hs.map hdBlk ++ [hdBlk d], ∀ g, a = some g → g < w.heap.size := by
    intro a ha g e
    rcases List.mem_append.1 ha with ha | ha
    · have := hold a ha g e; omega
    · rw [List.mem_singleton.1 ha] at e
      exact (hdn g e).2
  refine ⟨by simp [h.len], by rw [tabCells_push h.len]; exact hown, fun j x e hx he => ?_, ?_, fun g hgm => ?_⟩
  · have hxe : w.ownsRow lo it 1 (.slice e.1 x.length e.2) x.length (x.map (Value.int .i64)) ∧ hdBlk e ∈ hs.map hdBlk ++ [hdBlk d] := by
      rcases snoc_at hx with ⟨h1, h2⟩ | ⟨h1, h2⟩
      · rcases snoc_at he with ⟨h3, h4⟩ | ⟨h3, h4⟩
        · exact ⟨h.rows j x e h2 h4, List.mem_append_left _ (List.mem_map.2 ⟨e, List.mem_of_getElem? h4, rfl⟩)⟩
        · rw [h.len] at h3; omega
      · rcases snoc_at he with ⟨h3, h4⟩ | ⟨h3, h4⟩
        · rw [h.len] at h3; omega
        · subst h2 h4
          exact ⟨own_lo hy hlo, by simp⟩
    refine hxe.1.kept hg ?_
    rw [ownBlock_any e.1 x.length 0 e.2 e.2]
    exact hnew _ hxe.2
  · have hap : Apart (hs.map hdBlk ++ [hdBlk d]) := by
      have h0 : Apart (hs.map hdBlk) := by
        have := h.apart
        unfold Apart at this ⊢
        exact (List.pairwise_cons.1 this).2
      refine apart_push h0 (fun a ha => ?_)
      cases ea : a with
      | none => exact .inl rfl
      | some g =>
        refine .inr (fun e' => ?_)
        have := hold a ha g ea
        have := (hdn g e'.symm).1
        omega
    rw [List.map_append, List.map_cons, List.map_nil]
    unfold Apart at hap ⊢
    refine List.pairwise_cons.2 ⟨fun a ha => ?_, hap⟩
    rcases hat with e | ⟨g, e, hgl⟩
    · rw [e]
      rcases hnew a ha with e1 | e1
      · cases e2 : (Value.slice A n cap).ownBlock with
        | none => exact .inl rfl
        | some g => exact .inr (by rw [e1]; simp)
      · exact .inr (fun e2 => e1 e2.symm)
    · rw [e]
      refine .inr (fun e2 => ?_)
      have := hblt a ha g e2.symm
      omega
  · rw [List.map_append, List.map_cons, List.map_nil] at hgm
    have hs1 := hg.size
    rcases List.mem_cons.1 hgm with e | e
    · exact (hown.lt g e.symm).2
    · have := hblt _ e g rfl
      omega
/-- Another row in the place of one: what a store leaves. -/
theorem OwnRows.swap (h : OwnRows it t w lo hi A n cap yss hs) {g : Nat} (hA : A = some ⟨g, 0, none⟩) {ys : Row} {d : Hd} (hk : k < n) (hy : w.ownsRow hi it 1 (.slice d.1 ys.length d.2) ys.length (ys.map (Value.int .i64))) (hlo : lo ≤ hi) (hhi : hi ≤ w.heap.size) :
    OwnRows it t (w.setCell ⟨g, k, none⟩ (.slice d.1 ys.length d.2)) lo w.heap.size A n cap (yss.set k ys) (hs.set k d) ∧ w.grownBy (w.setCell ⟨g, k, none⟩ (.slice d.1 ys.length d.2)) (some g) := by
  subst hA
  obtain ⟨hst, hgs⟩ := h.row.stored k (.slice d.1 ys.length d.2)
  have hkx : k < yss.length := by rw [h.xlen]; exact hk
  have hkh : k < hs.length := by rw [h.len]; exact hkx
  have hdb : (Value.slice d.1 ys.length d.2).ownBlock = hdBlk d := ownBlock_any _ _ _ _ _
  have hdn : ∀ b, hdBlk d = some b → hi ≤ b ∧ b < w.heap.size := fun b e => hy.lt b (by rw [hdb]; exact e)
  have hgh : g < hi := h.bnd g (by simp [Value.ownBlock])
  have hold : ∀ a ∈ hs.map hdBlk, ∀ b, a = some b → b < hi := fun a ha b e => h.bnd b (by rw [← e]; exact List.mem_cons_of_mem _ ha)
  have hmem : ∀ {a}, a ∈ (hs.set k d).map hdBlk → a ∈ hs.map hdBlk ∨ a = hdBlk d := by
    intro a ha
    obtain ⟨e, he, rfl⟩ := List.mem_map.1 ha
    rcases List.mem_or_eq_of_mem_set he with h1 | h1
    · exact .inl (List.mem_map.2 ⟨e, h1, rfl⟩)
    · exact .inr (by rw [h1])
  refine ⟨⟨by simp [h.len], ?_, fun j x e hx he => ?_, ?_, fun b hb => ?_⟩, hgs⟩
  · have hz : tabCells (yss.set k ys) (hs.set k d) = (tabCells yss hs).set k (.slice d.1 ys.length d.2) := by
      unfold tabCells
      rw [show (yss.set k ys).zip (hs.set k d) = (yss.zip hs).set k (ys, d) from by
        apply List.ext_getElem?
        intro j
        by_cases hj : j = k
        · subst hj
          rw [List.getElem?_set_self (by rw [List.length_zip, h.len]; omega), List.getElem?_zip_eq_some]
          exact ⟨List.getElem?_set_self hkx, List.getElem?_set_self hkh⟩
        · rw [List.getElem?_set_ne (fun e => hj e.symm)]
          simp only [List.zip, List.getElem?_zipWith, List.getElem?_set_ne (fun e => hj (Eq.symm e))], List.map_set]
      rfl
    rw [hz]
    exact hst
  · by_cases hj : j = k
    · subst hj
      rw [List.getElem?_set_self hkx] at hx
      rw [List.getElem?_set_self hkh] at he
      injection hx with hx
      injection he with he
      subst hx he
      refine (own_lo hy hlo).kept hgs ?_
      rw [hdb]
      cases e : hdBlk d with
      | none => exact .inl rfl
      | some b =>
        refine .inr (fun e' => ?_)
        injection e' with e'
        have := (hdn b e).1
        omega
    · rw [List.getElem?_set_ne (fun e => hj e.symm)] at hx he
      refine (h.rows j x e hx he).kept hgs ?_
      rw [ownBlock_any e.1 x.length 0 e.2 e.2]
      exact apart_at h.apart (i := j + 1) (j := 0) (a := hdBlk e) (by simp [he]) rfl (by omega)
  · have hap := h.apart
    unfold Apart at hap ⊢
    rw [List.pairwise_iff_getElem] at hap ⊢
    intro i j hi' hj' hij
    have key : ∀ (q : Nat) (hq : q < ((Value.slice (some ⟨g, 0, none⟩) n cap).ownBlock :: (hs.set k d).map hdBlk).length), (q = k + 1 ∧ ((Value.slice (some ⟨g, 0, none⟩) n cap).ownBlock :: (hs.set k d).map hdBlk)[q] = hdBlk d) ∨
        (q ≠ k + 1 ∧ ∃ hq2 : q < ((Value.slice (some ⟨g, 0, none⟩) n cap).ownBlock :: hs.map hdBlk).length, ((Value.slice (some ⟨g, 0, none⟩) n cap).ownBlock :: (hs.set k d).map hdBlk)[q] = ((Value.slice (some ⟨g, 0, none⟩) n cap).ownBlock :: hs.map hdBlk)[q]) := by
      intro q hq
      by_cases hqk : q = k + 1
      · subst hqk
        exact .inl ⟨rfl, by simp⟩
      · refine .inr ⟨hqk, by simpa using hq, ?_⟩
        cases q with
        | zero => rfl
        | succ q =>
          simp only [List.getElem_cons_succ, List.getElem_map]
          rw [List.getElem_set_ne (by omega)]
    have hbd : ∀ (q : Nat) (hq2 : q < ((Value.slice (some ⟨g, 0, none⟩) n cap).ownBlock :: hs.map hdBlk).length) (b : Nat), ((Value.slice (some ⟨g, 0, none⟩) n cap).ownBlock :: hs.map hdBlk)[q] = some b → b < hi := by
      intro q hq2 b e
      exact h.bnd b (by rw [← e]; exact List.getElem_mem _)
    rcases key i hi' with ⟨e1, e2⟩ | ⟨e1, hq2, e2⟩
    · rcases key j hj' with ⟨e3, e4⟩ | ⟨e3, hq4, e4⟩
      · omega
      · rw [e2, e4]
        cases e : hdBlk d with
        | none => exact .inl rfl
        | some b =>
          refine .inr (fun e' => ?_)
          have := (hdn b e).1
          have := hbd j hq4 b e'.symm
          omega
    · rcases key j hj' with ⟨e3, e4⟩ | ⟨e3, hq4, e4⟩
      · rw [e2, e4]
        cases e : ((Value.slice (some ⟨g, 0, none⟩) n cap).ownBlock :: hs.map hdBlk)[i] with
        | none => exact .inl rfl
        | some b =>
          refine .inr (fun e' => ?_)
          have := (hdn b e'.symm).1
          have := hbd i hq2 b e
          omega
      · rw [e2, e4]
        exact hap i j hq2 hq4 hij
  · rcases List.mem_cons.1 hb with e | e
    · have := h.bnd b (by rw [← e]; simp)
      omega
    · rcases hmem e with e | e
      · have := hold _ e b rfl
        omega
      · exact (hdn b e.symm).2
/-- A row, written. -/
theorem OwnRows.setRow (h : OwnRows it t w lo hi A n cap yss hs) {ys ys' : Row} {d : Hd} (hx : yss[k]? = some ys) (hd : hs[k]? = some d) (hl : ys'.length = ys.length)
    (hg : w.grownBy w' (Value.slice d.1 ys.length d.2).ownBlock) (hp : w'.ownsRow lo it 1 (.slice d.1 ys.length d.2) ys.length (ys'.map (Value.int .i64))) :
    OwnRows it t w' lo hi A n cap (yss.set k ys') hs ∧ Span lo hi w w' := by
  have hkx : k < yss.length := (List.getElem?_eq_some_iff.1 hx).1
  have hdb : (Value.slice d.1 ys.length d.2).ownBlock = hdBlk d := ownBlock_any _ _ _ _ _
  have hmem : hdBlk d ∈ (Value.slice A n cap).ownBlock :: hs.map hdBlk := List.mem_cons_of_mem _ (List.mem_map.2 ⟨d, List.mem_of_getElem? hd, rfl⟩)
  refine ⟨⟨by simp [h.len], ?_, fun i y e hy he => ?_, h.apart, h.bnd⟩, Span.of_row hg (fun b hb => ⟨((h.rows k ys d hx hd).lt b hb).1, h.bnd b (by rw [hdb] at hb; rw [← hb]; exact hmem)⟩)⟩
  · have hz : tabCells (yss.set k ys') hs = tabCells yss hs := by
      unfold tabCells
      apply List.ext_getElem?
      intro j
      rw [List.getElem?_map, List.getElem?_map]
      simp only [List.zip, List.getElem?_zipWith]
      by_cases hj : j = k
      · subst hj
        rw [List.getElem?_set_self hkx, hx, hd]
        simp [tabCell, hl]
      · rw [List.getElem?_set_ne (fun e => hj e.symm)]
    rw [hz]
    refine h.row.kept hg ?_
    rw [hdb]
    exact apart_at h.apart (i := 0) (j := k + 1) rfl (by simp [hd]) (by omega)
  · by_cases hik : i = k
    · subst hik
      rw [List.getElem?_set_self hkx] at hy
      injection hy with hy
      subst hy
      rw [hd] at he
      injection he with he
      subst he
      rw [hl]
      exact hp
    · rw [List.getElem?_set_ne (fun e => hik e.symm)] at hy
      refine (h.rows i y e hy he).kept hg ?_
      rw [hdb, ownBlock_any e.1 y.length 0 e.2 e.2]
      exact apart_at h.apart (i := i + 1) (j := k + 1) (a := hdBlk e) (b := hdBlk d) (by simp [he]) (by simp [hd]) (by omega)
end
end Go.Proofs.YtboobimpoddacaaGreatDoor
