/-
  l3Put of the reference: ballots are added to their pile.
-/
import Derived.Test.YtipnalfkpalieaaDoorChain
import Derived.Test.YtipnalfkpalieaaDoorOwn
import Derived.Test.YtipnalfkpalieaaDoorAppAll
namespace Go.Proofs.YtipnalfkpalieaaDoor
open Go.RowKit
set_option linter.unusedVariables false

/-- Where a text stands, or would stand. -/
def putPos : List Pl → ByteArray → Nat
  | [], _ => 0
  | p :: ps, t => if sLt p.1 t then putPos ps t + 1 else 0
theorem putPos_le (ps : List Pl) (t : ByteArray) : putPos ps t ≤ ps.length := by
  induction ps with
  | nil => exact Nat.le_refl _
  | cons p ps ih => rw [putPos]; split <;> simp; omega
theorem putPos_of {ps : List Pl} {t : ByteArray} {k : Nat} (hk : k ≤ ps.length) (h : ∀ p ∈ ps.take k, sLt p.1 t = true) (hn : ∀ p, ps[k]? = some p → sLt p.1 t = false) : putPos ps t = k := by
  induction ps generalizing k with
  | nil => simp at hk; subst hk; rfl
  | cons p ps ih =>
    cases k with
    | zero =>
      have := hn p rfl
      rw [putPos, this]
      rfl
    | succ k =>
      have h1 := h p (by simp)
      rw [putPos, if_pos h1, ih (by simpa using hk) (fun q hq => h q (by simp [hq])) (fun q hq => hn q (by simpa using hq))]
theorem put_eq {ps : List Pl} {t : ByteArray} (m : Int) {p : Pl} (h : ps[putPos ps t]? = some p) (ht : p.1 = t) : put ps t m = ps.set (putPos ps t) (t, IntKind.i64.wrap (p.2 + m)) := by
  induction ps with
  | nil => simp at h
  | cons q ps ih =>
    rw [putPos] at h ⊢
    rw [put]
    split
    · rename_i h1
      rw [if_pos h1] at h
      rw [List.set_cons_succ, ih (by simpa using h)]
    · rename_i h1
      rw [if_neg h1] at h
      simp at h
      subst h
      rw [if_pos ht, List.set_cons_zero]
theorem put_ne {ps : List Pl} {t : ByteArray} (m : Int) (h : ∀ p, ps[putPos ps t]? = some p → p.1 ≠ t) : put ps t m = ps.take (putPos ps t) ++ (t, m) :: ps.drop (putPos ps t) := by
  induction ps with
  | nil => rfl
  | cons q ps ih =>
    rw [putPos] at h ⊢
    rw [put]
    split
    · rename_i h1
      rw [if_pos h1] at h
      rw [ih (fun p hp => h p (by simpa using hp))]
      rfl
    · rename_i h1
      rw [if_neg h1] at h
      rw [if_neg (h q rfl)]
      rfl

theorem pileInfo : (Tryd.prog.info? 48).map (fun i => (i.zero, i.size, i.bytes)) = some (some (.agg #[.string ⟨#[]⟩, .int .i64 0]), 2, 24) := by kernel_rfl
theorem pileE : Elem Tryd.prog 25 48 2 24 (.agg #[.string ⟨#[]⟩, .int .i64 0]) := ⟨Tryd.underlying25, info_parts pileInfo, rfl, by omega⟩
theorem plCells_one {ps : List Pl} : ∀ u ∈ cellsOf plCells ps, u.oneCell' = true := by
  intro u hu
  unfold cellsOf at hu
  rw [List.mem_flatMap] at hu
  obtain ⟨p, _, hp⟩ := hu
  simp [plCells] at hp
  rcases hp with rfl | rfl <;> rfl

theorem own_addr2 {w : World} {lo e size n c : Nat} {A : Option Addr} {xs : List Value} (h : w.ownsRow lo e size (.slice A n c) n xs) (hn : 0 < n) : ∃ g, A = some ⟨g, 0, none⟩ ∧ lo ≤ g ∧ g < w.heap.size := by
  rcases h.2 with ⟨h1, h2⟩ | ⟨g, cap, cur, h1, hg, hh, _⟩
  · omega
  · injection h1 with h1
    exact ⟨g, h1, hg, Blk.lt hh⟩
theorem own_pile {w : World} {lo e n c k g : Nat} {A : Option Addr} {ps : List Pl} {p : Pl} (h : w.ownsRow lo e 2 (.slice A n c) n (cellsOf plCells ps)) (hA : A = some ⟨g, 0, none⟩) (hp : ps[k]? = some p) (hk : k < n) (j : Nat) (hj : j < 2) : w.cell? ⟨g, k * 2 + j, none⟩ = (plCells p)[j]? := by
  subst hA
  rw [h.cellAt _ (by omega)]
  exact cellsOf_at plCells_len hp hj
theorem own_frozen {w : World} {lo e size n c g : Nat} {A : Option Addr} {xs : List Value} (h : w.ownsRow lo e size (.slice A n c) n xs) (hA : A = some ⟨g, 0, none⟩) (j : Nat) : w.frozen? ⟨g, j, none⟩ = false := by
  subst hA
  exact h.frozenAt j
/-- A fresh slice of piles. -/
def PilesRes (ps : List Pl) (w : World) (e : Ending) (w' : World) : Prop :=
  ∃ B c, e = .returned (.slice B ps.length c) ∧ w.grownBy w' none ∧ w'.ownsRow w.heap.size 48 2 (.slice B ps.length c) ps.length (cellsOf plCells ps)

def putFacts (w : World) (lo n k : Nat) (ps : List Pl) (t : ByteArray) (m : Int) (L : Value) : Nat → Value → World → Prop
  | 0 => fun v x => RowF x w.heap.size 48 2 (cellsOf plCells (ps.take k ++ (t, m) :: ps.drop k)) v 0 0
  | 1 => fun v _ => v = L
  | 2 => fun v _ => v = .int .i64 k
  | 3 => fun v _ => ∃ A c, v = .slice A k c ∧ Piles w lo A k c (ps.take k)
  | 4 => fun v x => ∃ c, RowF x w.heap.size 48 2 (cellsOf plCells (ps.take k ++ (t, m) :: ps.drop k)) v k c
  | 5 => fun v _ => v = .string t
  | 6 => fun v _ => v = .int .i64 m
  | 7 => fun v _ => v = .agg #[.string t, .int .i64 m]
  | 8 => fun v x => RowO x w.heap.size 48 [.string t, .int .i64 m] v
  | 9 => fun v x => ∃ c, RowF x w.heap.size 48 2 (cellsOf plCells (ps.take k ++ (t, m) :: ps.drop k)) v (k + 1) c
  | 10 => fun v _ => v = L
  | 11 => fun v _ => v = .int .i64 k
  | 12 => fun v _ => ∃ A c, v = .slice A (n - k) c ∧ Piles w lo A (n - k) c (ps.drop k)
  | _ => fun v x => ∃ c, RowF x w.heap.size 48 2 (cellsOf plCells (ps.take k ++ (t, m) :: ps.drop k)) v (n + 1) c
theorem putFacts_kept {w : World} {lo n k : Nat} {ps : List Pl} {t : ByteArray} {m : Int} {L : Value} {x y : World} (h : KF w.heap.size 48 2 (cellsOf plCells (ps.take k ++ (t, m) :: ps.drop k)) x y) :
    ∀ i v, putFacts w lo n k ps t m L i v x → putFacts w lo n k ps t m L i v y := by
  intro i v hv
  unfold putFacts at *
  split at hv
  all_goals first | exact hv | exact RowF.keep hv h | (obtain ⟨c, hv⟩ := hv; exact ⟨c, hv.keep h⟩) | exact RowO.keep hv (by simp) h

attribute [local go_sem] flowAct flowOp_def flowUpon
set_option maxHeartbeats 4000000 in
theorem c_l3Put (lo : Nat) (A : Option Addr) (n cap : Nat) (ps : List Pl) (t : ByteArray) (m : Int) (w : World) (h : Piles w lo A n cap ps) (hn : n ≤ 2000000000000) :
    Calls Tryd.prog 99 #[.slice A n cap, .string t, .int .i64 m] w (PilesRes (put ps t m) w) := by
  have hlc := h.1
  have hcm := Sl.max h
  have hxl := Lib.hid h.len
  go_enter Tryd.func99, Tryd.ntmps99
  go_wp2
  go_loop [7] (fun i => ∃ k : Nat, k ≤ n ∧ i = .int .i64 k ∧ Hid (∀ p ∈ ps.take k, sLt p.1 t = true)) (fun i => n - (intOf i).toNat)
  case atStart => exact ⟨0, Nat.zero_le _, rfl, Lib.hid (by simp)⟩
  case round =>
    obtain ⟨k, hk, rfl, hpre⟩ := hrel
    by_cases hlt : k < n
    · obtain ⟨b, off, ⟨s, q⟩, rfl, _, hbl, hp, m0, m1⟩ := h.at_ hlt
      have hk' : (k : Int) < (n : Int) := by omega
      have hk0 : (0 : Int) ≤ (k : Int) := by omega
      obtain ⟨L, hL⟩ : ∃ L, Op.bytesLess s.toList t.toList = L := ⟨_, rfl⟩
      have HL : Hid (sLt s t = L) := Lib.hid hL
      cases L with
      | true =>
        go_wp2
        go_round
        case rel => exact ⟨k + 1, by omega, by go_num, Lib.hid (fun p hm => by
          rw [take_succ_of hp.out] at hm
          rcases List.mem_append.1 hm with hm | hm
          · exact hpre.out p hm
          · rw [List.mem_singleton.1 hm]; exact HL.out)⟩
        case measure => simp [intOf]; omega
      | false =>
        have hkp : Hid (putPos ps t = k) := Lib.hid (putPos_of (by rw [hxl.out]; exact hk) hpre.out (fun p hp' => by rw [hp.out] at hp'; injection hp' with hp'; subst hp'; exact HL.out))
        by_cases hst : s = t
        · subst hst
          have hse : (s.toList == s.toList) = true := by simp
          have hput : Hid (put ps s m = ps.set k (s, IntKind.i64.wrap (q + m))) := Lib.hid (by
            have := put_eq m (p := (s, q)) (by rw [hkp.out]; exact hp.out) rfl
            rwa [hkp.out] at this)
          have hw64 : Hid (IntKind.i64.wrap (q + m) = wrap64 (q + m)) := Lib.hid (by first | rfl | (rw [IntKind.wrap_i64]; unfold wrap64; rfl))
          have hpl : Hid ((put ps s m).length = n) := Lib.hid (by rw [hput.out, List.length_set]; exact hxl.out)
          go_wp2_with (at_builtin; refine wpList_appAll pileE rfl _ _ rfl w.heap.size lo 0 n cap _ _ (cellsOf plCells ps) (some ⟨b, off, none⟩) rfl (own_empty _ _ _ _ (Nat.le_refl _)) rfl (h.keep0 (gb_alloc (gb_refl _ _) _)) plCells_one (by omega) (by omega) (by simp) ?_; intro B' c' w3 hown3 hb3 hg3 hat3; have hbw := (((Below.refl w.heap.size w).alloc (Nat.le_refl _) (.cells #[] 48)).trans hb3); have m0' := (hbw.cell (p := ⟨b, off + k * 2, none⟩) hbl).trans m0; rw [Nat.zero_add, List.nil_append] at hown3; obtain ⟨g, rfl, hg0, hgz⟩ := own_addr2 hown3 (by omega); have c1 : w3.cell? ⟨g, k * 2 + 1, none⟩ = some (.int .i64 q) := own_pile hown3 rfl hp.out hlt 1 (by omega); have f1 := own_frozen hown3 rfl (k * 2 + 1))
          obtain ⟨hst3, hgs3⟩ := hown3.stored (k * 2 + 1) (.int .i64 (wrap64 (q + m)))
          rw [← cellsOf_set (y' := (s, wrap64 (q + m))) plCells_len hp.out (by omega) rfl] at hst3
          go_ret
          refine ⟨some ⟨g, 0, none⟩, c', by rw [hpl.out]; rfl, ?_, by rw [hpl.out, hput.out, hw64.out]; exact hst3⟩
          exact gb_of_below (hbw.setCell hg0 _) none
        · have hse : (s.toList == t.toList) = false := str_ne hst
          have hput : Hid (put ps t m = ps.take k ++ (t, m) :: ps.drop k) := Lib.hid (by
            have := put_ne (t := t) m (fun p hp' => by rw [hkp.out, hp.out] at hp'; injection hp' with hp'; subst hp'; exact hst)
            rwa [hkp.out] at this)
          have hpl : Hid ((put ps t m).length = n + 1) := Lib.hid (by rw [hput.out]; simp; have := hxl.out; omega)
          clear hst
          go_wp2_with (at_builtin; refine wpList_appAll pileE rfl _ _ rfl w.heap.size lo 0 n cap _ _ (cellsOf plCells ps) (some ⟨b, off, none⟩) rfl (own_empty _ _ _ _ (Nat.le_refl _)) rfl (h.keep0 (gb_alloc (gb_refl _ _) _)) plCells_one (by omega) (by omega) (by simp) ?_; intro B' c' w3 hown3 hb3 hg3 hat3; have hbw := (((Below.refl w.heap.size w).alloc (Nat.le_refl _) (.cells #[] 48)).trans hb3); have m0' := (hbw.cell (p := ⟨b, off + k * 2, none⟩) hbl).trans m0)
          --REGION A
          have hz3 := hbw.size
          have hBw : ∀ x, Below w3.heap.size w3 x → Piles x lo (some ⟨b, off, none⟩) n cap ps := fun x hx => h.keep0 (gb_of_below (hbw.trans (hx.mono hz3)) none)
          have Hbw := Lib.hid hBw
          have htk : Hid (Piles w3 lo (some ⟨b, off, none⟩) k cap (ps.take k)) := Lib.hid ((Hbw.out w3 (Below.refl _ _)).take hk)
          have hdr : Hid (Piles w3 lo (if cap = k then some ⟨b, off, none⟩ else some ⟨b, off + k * 2, none⟩) (n - k) (cap - k) (ps.drop k)) := Lib.hid (by have := (Hbw.out w3 (Below.refl _ _)).drop hk; simpa only [Option.map_some, add_off] using this)
          have hkc : k ≤ cap := by omega
          have hfl : Hid ((ps.take k ++ (t, m) :: ps.drop k).length = n + 1) := Lib.hid (by rw [← hput.out]; exact hpl.out)
          have hf1 : ∀ j, j < k * 2 → (cellsOf plCells (ps.take k ++ (t, m) :: ps.drop k))[0 * 2 + j]? = (cellsOf plCells (ps.take k))[j]? := fun j hj => by
            rw [Nat.zero_mul, Nat.zero_add, cellsOf_append, List.getElem?_append_left (by rw [cellsOf_len plCells_len, List.length_take, hxl.out]; omega)]
          have hf2 : ∀ j, j < 1 * 2 → (cellsOf plCells (ps.take k ++ (t, m) :: ps.drop k))[k * 2 + j]? = [Value.string t, Value.int .i64 m][j]? := fun j hj => by
            have := cellsOf_at plCells_len (xs := ps.take k ++ (t, m) :: ps.drop k) (k := k) (j := j) (x := (t, m)) (by rw [List.getElem?_append_right (by rw [List.length_take]; omega), List.length_take, hxl.out, show k - min k n = 0 from by omega]; rfl) (by omega)
            rw [this]
            rfl
          have hf3 : ∀ j, j < (n - k) * 2 → (cellsOf plCells (ps.take k ++ (t, m) :: ps.drop k))[(k + 1) * 2 + j]? = (cellsOf plCells (ps.drop k))[j]? := fun j hj => by
            rw [show ps.take k ++ (t, m) :: ps.drop k = (ps.take k ++ [(t, m)]) ++ ps.drop k from by simp, cellsOf_append]
            have h1 : (cellsOf plCells (ps.take k ++ [(t, m)])).length = (k + 1) * 2 := by rw [cellsOf_len plCells_len, List.length_append, List.length_take, hxl.out, Nat.min_eq_left (by omega)]; rfl
            rw [List.getElem?_append_right (by omega), h1, show (k + 1) * 2 + j - (k + 1) * 2 = j from by omega]
          have Hf1 := Lib.hid hf1
          have Hf2 := Lib.hid hf2
          have Hf3 := Lib.hid hf3
          clear hBw hf1 hf2 hf3
          refine wp_flow (by kernel_rfl) (by kernel_rfl) (fun _ x => Below w3.heap.size w3 x ∧ w3.heap.size ≤ x.heap.size) (fun _ x y => KF w3.heap.size 48 2 (cellsOf plCells (ps.take k ++ (t, m) :: ps.drop k)) x y) (putFacts w3 lo n k ps t m (.slice (some ⟨b, off, none⟩) n cap)) ⟨(Below.refl _ _).drew, Nat.le_refl _⟩ (fun i x y hT hC => ⟨hC.1.trans hT.1, Nat.le_trans hC.2 hT.1.size⟩) (fun i x y hT _ => putFacts_kept hT) ?_ ?_
          · refine ⟨fun i u x hn hC hp => ?_, fun i u x hn hC hp => ?_, fun i u x hn hC hp => ?_, fun i u x hn hC hp => ?_, fun i u x hn hC hp => ?_, fun i u x hn hC hp => ?_, fun i u x hn hC hp => ?_, fun i u x hn hC hp => ?_, fun i u x hn hC hp => ?_, fun i u x hn hC hp => ?_, fun i u x hn hC hp => ?_, fun i u x hn hC hp => ?_, fun i u x hn hC hp => ?_, fun i u x hn hC hp => ?_, fun i u x hn hC hp => ?_, trivial⟩
            · simp [flowPreds, Region.binds, putFacts] at hp
              go_simp
              exact ⟨KF.of_gb (gb_alloc (gb_refl _ _) _) hC.2, RowF.empty _ hC.2⟩
            · simp [flowPreds, Region.binds, putFacts] at hp
              go_simp
              exact ⟨KF.of_gb (gb_refl _ _) hC.2, rfl⟩
            · simp [flowPreds, Region.binds, putFacts] at hp
              go_simp
              exact ⟨KF.of_gb (gb_refl _ _) hC.2, rfl⟩
            · have e1 : u 1 = .slice (some ⟨b, off, none⟩) n cap := hp 1 (by decide)
              have e2 : u 2 = .int .i64 k := hp 2 (by decide)
              clear hp
              go_simp
              exact ⟨KF.of_gb (gb_refl _ _) hC.2, _, _, rfl, htk.out⟩
            · have hR := (show RowF x _ _ _ _ (u 0) 0 0 from hp 0 (by decide))
              obtain ⟨A1, c1, e3, h3⟩ := (show ∃ A c, u 3 = .slice A k c ∧ Piles w3 lo A k c (ps.take k) from hp 3 (by decide))
              have h3x := h3.keep0 (gb_of_below hC.1 none)
              obtain ⟨v', c', y, hr, hK, hF⟩ := chain_app pileE hR hC.2 (A := A1) (m := k) (c0 := c1) (us := cellsOf plCells (ps.take k)) (fun e => h3x.none_zero e) h3x.2.2.1 (fun a e => h3x.addr e) plCells_one Hf1.out (by omega) (by omega) 25
              rw [← e3] at hr
              rw [Nat.zero_add] at hF
              refine flowOp_chain (by go_simp) (.tmp 52) (.tmp 55) rfl (by go_simp) (by go_simp) hr ⟨hK, c', hF⟩
            · simp [flowPreds, Region.binds, putFacts] at hp
              go_simp
              exact ⟨KF.of_gb (gb_refl _ _) hC.2, rfl⟩
            · simp [flowPreds, Region.binds, putFacts] at hp
              go_simp
              exact ⟨KF.of_gb (gb_refl _ _) hC.2, rfl⟩
            · have e1 : u 5 = .string t := hp 5 (by decide)
              have e2 : u 6 = .int .i64 m := hp 6 (by decide)
              clear hp
              go_simp
              exact ⟨KF.of_gb (gb_refl _ _) hC.2, rfl⟩
            · have e1 : u 7 = .agg #[.string t, .int .i64 m] := hp 7 (by decide)
              clear hp
              go_simp
              exact ⟨KF.of_gb (gb_alloc (gb_refl _ _) _) hC.2, RowO.new _ hC.2 _⟩
            · obtain ⟨c4, hR⟩ := (show ∃ c, RowF x _ _ _ _ (u 4) k c from hp 4 (by decide))
              have hO := (show RowO x _ _ _ (u 8) from hp 8 (by decide))
              obtain ⟨g8, e8, _, hg8⟩ := hO
              obtain ⟨v', c', y, hr, hK, hF⟩ := chain_app pileE hR hC.2 (A := some ⟨g8, 0, none⟩) (m := 1) (c0 := 1) (us := [.string t, .int .i64 m]) (fun e => by cases e) rfl (fun a e j u' hu => by
                injection e with e
                subst e
                rw [add_off, Nat.zero_add, Blk.cell hg8 j]
                simpa using hu) (by simp [Value.oneCell']) Hf2.out (by omega) (by omega) 25
              rw [← e8] at hr
              refine flowOp_chain (by go_simp) (.tmp 56) (.tmp 60) rfl (by go_simp) (by go_simp) hr ⟨hK, c', hF⟩
            · simp [flowPreds, Region.binds, putFacts] at hp
              go_simp
              exact ⟨KF.of_gb (gb_refl _ _) hC.2, rfl⟩
            · simp [flowPreds, Region.binds, putFacts] at hp
              go_simp
              exact ⟨KF.of_gb (gb_refl _ _) hC.2, rfl⟩
            · have e1 : u 10 = .slice (some ⟨b, off, none⟩) n cap := hp 10 (by decide)
              have e2 : u 11 = .int .i64 k := hp 11 (by decide)
              clear hp
              go_simp
              exact ⟨KF.of_gb (gb_refl _ _) hC.2, _, _, rfl, hdr.out⟩
            · obtain ⟨c9, hR⟩ := (show ∃ c, RowF x _ _ _ _ (u 9) (k + 1) c from hp 9 (by decide))
              obtain ⟨A1, c1, e3, h3⟩ := (show ∃ A c, u 12 = .slice A (n - k) c ∧ Piles w3 lo A (n - k) c (ps.drop k) from hp 12 (by decide))
              have h3x := h3.keep0 (gb_of_below hC.1 none)
              obtain ⟨v', c', y, hr, hK, hF⟩ := chain_app pileE hR hC.2 (A := A1) (m := n - k) (c0 := c1) (us := cellsOf plCells (ps.drop k)) (fun e => h3x.none_zero e) h3x.2.2.1 (fun a e => h3x.addr e) plCells_one Hf3.out (by omega) (by omega) 25
              rw [← e3] at hr
              rw [show k + 1 + (n - k) = n + 1 from by omega] at hF
              refine flowOp_chain (by go_simp) (.tmp 61) (.tmp 64) rfl (by go_simp) (by go_simp) hr ⟨hK, c', hF⟩
            · obtain ⟨c13, hR⟩ := (show ∃ c, RowF x _ _ _ _ (u 13) (n + 1) c from hp 13 (by decide))
              clear hp
              go_simp
              exact ⟨KF.of_gb (gb_refl _ _) hC.2, c13, hR⟩
          · intro i u x hn hC hp
            obtain ⟨c14, hR⟩ := (show ∃ c, RowF x w3.heap.size 48 2 (cellsOf plCells (ps.take k ++ (t, m) :: ps.drop k)) (u 14) (n + 1) c from hp 14 (by decide))
            obtain ⟨g, e14, ho⟩ := hR.own (by rw [cellsOf_len plCells_len, hfl.out])
            clear hp hR
            go_simp
            go_wp2
            go_ret
            refine ⟨some ⟨g, 0, none⟩, c14, by rw [hpl.out]; rfl, gb_of_below (hbw.trans (hC.1.mono hz3)) none, ?_⟩
            rw [hpl.out, hput.out]
            exact own_lo ho hz3
          --ENDREGION
    · obtain rfl : k = n := by omega
      have hkp : Hid (putPos ps t = k) := Lib.hid (putPos_of (by rw [hxl.out]; exact hk) hpre.out (fun p hp' => by rw [List.getElem?_eq_none (by rw [hxl.out]; exact Nat.le_refl _)] at hp'; cases hp'))
      have hput : Hid (put ps t m = ps.take k ++ (t, m) :: ps.drop k) := Lib.hid (by
        have := put_ne (t := t) m (fun p hp' => by rw [hkp.out, List.getElem?_eq_none (by rw [hxl.out]; exact Nat.le_refl _)] at hp'; cases hp')
        rwa [hkp.out] at this)
      have hpl : Hid ((put ps t m).length = k + 1) := Lib.hid (by rw [hput.out]; simp; have := hxl.out; omega)
      go_wp2_with (at_builtin; refine wpList_appAll pileE rfl _ _ rfl w.heap.size lo 0 k cap _ _ (cellsOf plCells ps) A rfl (own_empty _ _ _ _ (Nat.le_refl _)) rfl (h.keep0 (gb_alloc (gb_refl _ _) _)) plCells_one (by omega) (by omega) (by simp) ?_; intro B' c' w3 hown3 hb3 hg3 hat3; have hbw := (((Below.refl w.heap.size w).alloc (Nat.le_refl _) (.cells #[] 48)).trans hb3))
      --REGION B
      have hz3 := hbw.size
      have hBw : ∀ x, Below w3.heap.size w3 x → Piles x lo A k cap ps := fun x hx => h.keep0 (gb_of_below (hbw.trans (hx.mono hz3)) none)
      have Hbw := Lib.hid hBw
      have htk : Hid (Piles w3 lo A k cap (ps.take k)) := Lib.hid ((Hbw.out w3 (Below.refl _ _)).take hk)
      have hdr : Hid (Piles w3 lo (if cap = k then A else Option.map (fun a : Addr => a.add (k * 2)) A) (k - k) (cap - k) (ps.drop k)) := Lib.hid ((Hbw.out w3 (Below.refl _ _)).drop hk)
      have hkc : k ≤ cap := by omega
      have hfl : Hid ((ps.take k ++ (t, m) :: ps.drop k).length = k + 1) := Lib.hid (by rw [← hput.out]; exact hpl.out)
      have hf1 : ∀ j, j < k * 2 → (cellsOf plCells (ps.take k ++ (t, m) :: ps.drop k))[0 * 2 + j]? = (cellsOf plCells (ps.take k))[j]? := fun j hj => by
        rw [Nat.zero_mul, Nat.zero_add, cellsOf_append, List.getElem?_append_left (by rw [cellsOf_len plCells_len, List.length_take, hxl.out]; omega)]
      have hf2 : ∀ j, j < 1 * 2 → (cellsOf plCells (ps.take k ++ (t, m) :: ps.drop k))[k * 2 + j]? = [Value.string t, Value.int .i64 m][j]? := fun j hj => by
        have := cellsOf_at plCells_len (xs := ps.take k ++ (t, m) :: ps.drop k) (k := k) (j := j) (x := (t, m)) (by rw [List.getElem?_append_right (by rw [List.length_take]; omega), List.length_take, hxl.out, show k - min k k = 0 from by omega]; rfl) (by omega)
        rw [this]
        rfl
      have hf3 : ∀ j, j < (k - k) * 2 → (cellsOf plCells (ps.take k ++ (t, m) :: ps.drop k))[(k + 1) * 2 + j]? = (cellsOf plCells (ps.drop k))[j]? := fun j hj => by
        rw [show ps.take k ++ (t, m) :: ps.drop k = (ps.take k ++ [(t, m)]) ++ ps.drop k from by simp, cellsOf_append]
        have h1 : (cellsOf plCells (ps.take k ++ [(t, m)])).length = (k + 1) * 2 := by rw [cellsOf_len plCells_len, List.length_append, List.length_take, hxl.out, Nat.min_eq_left (by omega)]; rfl
        rw [List.getElem?_append_right (by omega), h1, show (k + 1) * 2 + j - (k + 1) * 2 = j from by omega]
      have Hf1 := Lib.hid hf1
      have Hf2 := Lib.hid hf2
      have Hf3 := Lib.hid hf3
      clear hBw hf1 hf2 hf3
      refine wp_flow (by kernel_rfl) (by kernel_rfl) (fun _ x => Below w3.heap.size w3 x ∧ w3.heap.size ≤ x.heap.size) (fun _ x y => KF w3.heap.size 48 2 (cellsOf plCells (ps.take k ++ (t, m) :: ps.drop k)) x y) (putFacts w3 lo k k ps t m (.slice A k cap)) ⟨(Below.refl _ _).drew, Nat.le_refl _⟩ (fun i x y hT hC => ⟨hC.1.trans hT.1, Nat.le_trans hC.2 hT.1.size⟩) (fun i x y hT _ => putFacts_kept hT) ?_ ?_
      · refine ⟨fun i u x hn hC hp => ?_, fun i u x hn hC hp => ?_, fun i u x hn hC hp => ?_, fun i u x hn hC hp => ?_, fun i u x hn hC hp => ?_, fun i u x hn hC hp => ?_, fun i u x hn hC hp => ?_, fun i u x hn hC hp => ?_, fun i u x hn hC hp => ?_, fun i u x hn hC hp => ?_, fun i u x hn hC hp => ?_, fun i u x hn hC hp => ?_, fun i u x hn hC hp => ?_, fun i u x hn hC hp => ?_, fun i u x hn hC hp => ?_, trivial⟩
        · simp [flowPreds, Region.binds, putFacts] at hp
          go_simp
          exact ⟨KF.of_gb (gb_alloc (gb_refl _ _) _) hC.2, RowF.empty _ hC.2⟩
        · simp [flowPreds, Region.binds, putFacts] at hp
          go_simp
          exact ⟨KF.of_gb (gb_refl _ _) hC.2, rfl⟩
        · simp [flowPreds, Region.binds, putFacts] at hp
          go_simp
          exact ⟨KF.of_gb (gb_refl _ _) hC.2, rfl⟩
        · have e1 : u 1 = .slice A k cap := hp 1 (by decide)
          have e2 : u 2 = .int .i64 k := hp 2 (by decide)
          clear hp
          go_simp
          exact ⟨KF.of_gb (gb_refl _ _) hC.2, _, _, rfl, htk.out⟩
        · have hR := (show RowF x _ _ _ _ (u 0) 0 0 from hp 0 (by decide))
          obtain ⟨A1, c1, e3, h3⟩ := (show ∃ A c, u 3 = .slice A k c ∧ Piles w3 lo A k c (ps.take k) from hp 3 (by decide))
          have h3x := h3.keep0 (gb_of_below hC.1 none)
          obtain ⟨v', c', y, hr, hK, hF⟩ := chain_app pileE hR hC.2 (A := A1) (m := k) (c0 := c1) (us := cellsOf plCells (ps.take k)) (fun e => h3x.none_zero e) h3x.2.2.1 (fun a e => h3x.addr e) plCells_one Hf1.out (by omega) (by omega) 25
          rw [← e3] at hr
          rw [Nat.zero_add] at hF
          refine flowOp_chain (by go_simp) (.tmp 52) (.tmp 55) rfl (by go_simp) (by go_simp) hr ⟨hK, c', hF⟩
        · simp [flowPreds, Region.binds, putFacts] at hp
          go_simp
          exact ⟨KF.of_gb (gb_refl _ _) hC.2, rfl⟩
        · simp [flowPreds, Region.binds, putFacts] at hp
          go_simp
          exact ⟨KF.of_gb (gb_refl _ _) hC.2, rfl⟩
        · have e1 : u 5 = .string t := hp 5 (by decide)
          have e2 : u 6 = .int .i64 m := hp 6 (by decide)
          clear hp
          go_simp
          exact ⟨KF.of_gb (gb_refl _ _) hC.2, rfl⟩
        · have e1 : u 7 = .agg #[.string t, .int .i64 m] := hp 7 (by decide)
          clear hp
          go_simp
          exact ⟨KF.of_gb (gb_alloc (gb_refl _ _) _) hC.2, RowO.new _ hC.2 _⟩
        · obtain ⟨c4, hR⟩ := (show ∃ c, RowF x _ _ _ _ (u 4) k c from hp 4 (by decide))
          have hO := (show RowO x _ _ _ (u 8) from hp 8 (by decide))
          obtain ⟨g8, e8, _, hg8⟩ := hO
          obtain ⟨v', c', y, hr, hK, hF⟩ := chain_app pileE hR hC.2 (A := some ⟨g8, 0, none⟩) (m := 1) (c0 := 1) (us := [.string t, .int .i64 m]) (fun e => by cases e) rfl (fun a e j u' hu => by
            injection e with e
            subst e
            rw [add_off, Nat.zero_add, Blk.cell hg8 j]
            simpa using hu) (by simp [Value.oneCell']) Hf2.out (by omega) (by omega) 25
          rw [← e8] at hr
          refine flowOp_chain (by go_simp) (.tmp 56) (.tmp 60) rfl (by go_simp) (by go_simp) hr ⟨hK, c', hF⟩
        · simp [flowPreds, Region.binds, putFacts] at hp
          go_simp
          exact ⟨KF.of_gb (gb_refl _ _) hC.2, rfl⟩
        · simp [flowPreds, Region.binds, putFacts] at hp
          go_simp
          exact ⟨KF.of_gb (gb_refl _ _) hC.2, rfl⟩
        · have e1 : u 10 = .slice A k cap := hp 10 (by decide)
          have e2 : u 11 = .int .i64 k := hp 11 (by decide)
          clear hp
          go_simp
          exact ⟨KF.of_gb (gb_refl _ _) hC.2, _, _, by rw [Nat.sub_self], hdr.out⟩
        · obtain ⟨c9, hR⟩ := (show ∃ c, RowF x _ _ _ _ (u 9) (k + 1) c from hp 9 (by decide))
          obtain ⟨A1, c1, e3, h3⟩ := (show ∃ A c, u 12 = .slice A (k - k) c ∧ Piles w3 lo A (k - k) c (ps.drop k) from hp 12 (by decide))
          have h3x := h3.keep0 (gb_of_below hC.1 none)
          obtain ⟨v', c', y, hr, hK, hF⟩ := chain_app pileE hR hC.2 (A := A1) (m := k - k) (c0 := c1) (us := cellsOf plCells (ps.drop k)) (fun e => h3x.none_zero e) h3x.2.2.1 (fun a e => h3x.addr e) plCells_one Hf3.out (by omega) (by omega) 25
          rw [← e3] at hr
          rw [show k + 1 + (k - k) = k + 1 from by omega] at hF
          refine flowOp_chain (by go_simp) (.tmp 61) (.tmp 64) rfl (by go_simp) (by go_simp) hr ⟨hK, c', hF⟩
        · obtain ⟨c13, hR⟩ := (show ∃ c, RowF x _ _ _ _ (u 13) (k + 1) c from hp 13 (by decide))
          clear hp
          go_simp
          exact ⟨KF.of_gb (gb_refl _ _) hC.2, c13, hR⟩
      · intro i u x hn hC hp
        obtain ⟨c14, hR⟩ := (show ∃ c, RowF x w3.heap.size 48 2 (cellsOf plCells (ps.take k ++ (t, m) :: ps.drop k)) (u 14) (k + 1) c from hp 14 (by decide))
        obtain ⟨g, e14, ho⟩ := hR.own (by rw [cellsOf_len plCells_len, hfl.out])
        clear hp hR
        go_simp
        go_wp2
        go_ret
        refine ⟨some ⟨g, 0, none⟩, c14, by rw [hpl.out]; rfl, gb_of_below (hbw.trans (hC.1.mono hz3)) none, ?_⟩
        rw [hpl.out, hput.out]
        exact own_lo ho hz3
      --ENDREGION
end Go.Proofs.YtipnalfkpalieaaDoor
