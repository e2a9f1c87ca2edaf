/-
  Lots: LotsOf of the program and of the reference.
-/
import Derived.Test.YtboobimpoddacaaGreatDoorPackA
import Derived.Test.YtboobimpoddacaaGreatDoorDelete
namespace Go.Proofs.YtboobimpoddacaaGreatDoor
open Go.RowKit
set_option linter.unusedVariables false

def slLen : Value → Nat
  | .slice _ n _ => n
  | _ => 0
def lotsRes (n seed : Int) : List Int := if lotsOK n seed then lotsOf n.toNat seed.toNat else []
theorem apart_new {w : World} {lo e size n : Nat} {A : Option Addr} {c : Nat} {xs : List Value} {o o' : Option Nat} (h : w.ownsRow lo e size (.slice A n c) n xs) (hap : (Value.slice A n c).ownBlock = none ∨ (Value.slice A n c).ownBlock ≠ o)
    (hat : o' = o ∨ ∃ g, o' = some g ∧ w.heap.size ≤ g) : (Value.slice A n c).ownBlock = none ∨ (Value.slice A n c).ownBlock ≠ o' := by
  rcases hat with rfl | ⟨g, rfl, hg⟩
  · exact hap
  · cases e : (Value.slice A n c).ownBlock with
    | none => exact .inl rfl
    | some b =>
      refine .inr (fun e' => ?_)
      injection e' with e'
      have := (h.lt b e).2
      omega
theorem apart_sym {a b : Option Nat} (h : a = none ∨ a ≠ b) : b = none ∨ b ≠ a := by
  cases b with
  | none => exact .inl rfl
  | some g =>
    rcases h with rfl | h
    · exact .inr (by simp)
    · exact .inr (fun e => h e.symm)
theorem rem_nat (s n : Nat) : (s : Int).tmod (n : Int) = ((s % n : Nat) : Int) := by rw [Int.tmod_eq_emod_of_nonneg (by omega)]; omega
theorem quo_nat (s n : Nat) : (s : Int).tdiv (n : Int) = ((s / n : Nat) : Int) := by rw [Int.tdiv_eq_ediv_of_nonneg (by omega)]; omega
/-- What one draw of a lot does. -/
theorem lots_step {N S f s : Nat} {left done : List Int} {z : Int} (h : lotsOf N S = done ++ lotsGo (f + 1) left s) (hz : left[s % (f + 1)]? = some z) : lotsOf N S = (done ++ [z]) ++ lotsGo f (left.eraseIdx (s % (f + 1))) (s / (f + 1)) := by
  rw [h, lotsGo, List.getD_eq_getElem?_getD, hz]
  simp

set_option maxHeartbeats 4000000 in
theorem c_impl_LotsOf (n seed : Int) (w : World) :
    Calls Tryz.prog 54 #[.int .i64 n, .int .i64 seed] w fun e w' => ∃ D m c, e = .returned (.tuple #[.slice D m c, .bool (lotsOK n seed)]) ∧ w.grownBy w' none ∧ w'.ownsRow w.heap.size 3 1 (.slice D m c) m ((lotsRes n seed).map (Value.int .i64)) := by
  by_cases h1 : 1 ≤ n ∧ n ≤ 5
  · have e1 : inB n 1 5 = true := by simpa [inB] using h1
    by_cases h2 : seed < 0
    · have hno : Hid (lotsOK n seed = false) := Lib.hid (by rw [Bool.eq_false_iff]; intro e; rw [lotsOK_iff] at e; omega)
      clear h1
      go_enter Tryz.func54, Tryz.ntmps54
      go_wp2_with fail
      refine (c_isMany n _).mono ?_
      rintro e w1 ⟨rfl, rfl⟩
      rw [e1]
      go_wp2
      go_ret2
      exact ⟨none, 0, 0, by rw [hno.out]; rfl, gb_refl _ _, by rw [lotsRes, hno.out]; exact own_nil _ _ _ _⟩
    by_cases h3 : 999 < seed
    · have hno : Hid (lotsOK n seed = false) := Lib.hid (by rw [Bool.eq_false_iff]; intro e; rw [lotsOK_iff] at e; omega)
      clear h1
      go_enter Tryz.func54, Tryz.ntmps54
      go_wp2_with fail
      refine (c_isMany n _).mono ?_
      rintro e w1 ⟨rfl, rfl⟩
      rw [e1]
      go_wp2
      go_ret2
      exact ⟨none, 0, 0, by rw [hno.out]; rfl, gb_refl _ _, by rw [lotsRes, hno.out]; exact own_nil _ _ _ _⟩
    obtain ⟨N, rfl⟩ : ∃ N : Nat, n = (N : Int) := ⟨n.toNat, by omega⟩
    obtain ⟨S, rfl⟩ : ∃ S : Nat, seed = (S : Int) := ⟨seed.toNat, by omega⟩
    have hyes : Hid (lotsOK (N : Int) (S : Int) = true) := Lib.hid (by rw [lotsOK_iff]; omega)
    have hN1 : 1 ≤ N := by omega
    have hN5 : N ≤ 5 := by omega
    have hS9 : S ≤ 999 := by omega
    clear h1
    go_enter Tryz.func54, Tryz.ntmps54
    go_wp2_with fail
    refine (c_isMany _ _).mono ?_
    rintro e w1 ⟨rfl, rfl⟩
    rw [e1]
    clear e1
    go_wp2
    go_loopw [6, 22] (fun v i wr => ∃ (k : Nat) (A : Option Addr) (c : Nat), k ≤ N ∧ i = .int .i64 k ∧ v = .slice A k c ∧ wr.ownsRow w.heap.size 3 1 (.slice A k c) k ((iota k).map (Value.int .i64)) ∧ Below w.heap.size w wr) (fun _ i _ => N - (intOf i).toNat)
    case atStart => exact ⟨0, _, _, Nat.zero_le _, rfl, rfl, own_nil _ _ _ _, Below.refl _ _⟩
    case round =>
      obtain ⟨k, A, c, hk, rfl, rfl, hown, hb⟩ := hrel
      rename World => wr
      by_cases hlt : k < N
      · have hbs := hb.size
        have hk' : (k : Int) < (N : Int) := by omega
        go_wp2_with (at_builtin; refine wpList_app intE rfl _ _ rfl w.heap.size k _ _ rfl hown [_] rfl rfl (by simp [Value.oneCell']) (by omega) (by omega) hbs ?_; intro A' c' w1 hown1 hb1 hg1 hat1)
        go_roundw
        case rel => exact ⟨k + 1, A', c', by omega, by go_num, rfl, by rw [iota_succ, List.map_append]; exact hown1, hb.trans hb1⟩
        case measure => simp [intOf]; omega
      · obtain rfl : k = N := by omega
        have hG0 := gb_of_below hb none
        clear hlt hk hb
        go_wp2
        go_loopw [1, 6, 7] (fun sd v o wr => ∃ (f s : Nat) (A : Option Addr) (c M : Nat) (B : Option Addr) (d : Nat) (left done : List Int), sd = .int .i64 s ∧ v = .slice A f c ∧ o = .slice B M d ∧ wr.ownsRow w.heap.size 3 1 (.slice A f c) f (left.map (Value.int .i64)) ∧ wr.ownsRow w.heap.size 3 1 (.slice B M d) M (done.map (Value.int .i64)) ∧
          ((Value.slice A f c).ownBlock = none ∨ (Value.slice A f c).ownBlock ≠ (Value.slice B M d).ownBlock) ∧ w.grownBy wr none ∧ s ≤ 999 ∧ f + M = k ∧ Hid (lotsOf k S = done ++ lotsGo f left s)) (fun _ v _ _ => slLen v)
        case atStart => exact ⟨k, S, A, c, 0, none, 0, _, [], rfl, rfl, rfl, hown, own_nil _ _ _ _, by
          cases e : (Value.slice A k c).ownBlock with
          | none => exact .inl rfl
          | some g => exact .inr (by simp [Value.ownBlock]), hG0, hS9, by omega, Lib.hid rfl⟩
        case round =>
          obtain ⟨f, s, A, c, M, B, d, left, done, rfl, rfl, rfl, hL, hD, hap, hG, hs9, hfM, hpre⟩ := hrel
          rename World => wr
          clear hown hG0
          cases f with
          | zero =>
            have hdl : Hid (done.map (Value.int .i64) = (lotsRes (k : Int) (S : Int)).map (Value.int .i64)) := Lib.hid (by rw [lotsRes, hyes.out, if_pos rfl, Int.toNat_natCast, Int.toNat_natCast, hpre.out, lotsGo, List.append_nil])
            rw [hdl.out] at hD
            go_wp2
            go_ret2
            exact ⟨B, M, d, by rw [hyes.out]; rfl, hG, hD⟩
          | succ f =>
            obtain ⟨i, hi⟩ : ∃ i, s % (f + 1) = i := ⟨_, rfl⟩
            obtain ⟨q, hq⟩ : ∃ q, s / (f + 1) = q := ⟨_, rfl⟩
            have hif : i ≤ f := by have := Nat.mod_lt s (show 0 < f + 1 by omega); omega
            have hrem : (s : Int).tmod ((f : Int) + 1) = (i : Int) := by rw [← hi]; exact rem_nat s (f + 1)
            have hquo : (s : Int).tdiv ((f : Int) + 1) = (q : Int) := by rw [← hq]; exact quo_nat s (f + 1)
            have hq9 : q ≤ 999 := by rw [← hq]; exact Nat.le_trans (Nat.div_le_self _ _) hs9
            have hpos : (0 : Int) < (f : Int) + 1 := by omega
            have hnz : ¬ ((f : Int) + 1 = 0) := by omega
            obtain ⟨b, off, z, hAe, hz, hcell⟩ := Ints.at_ (show Ints wr w.heap.size A (f + 1) c left from Sl.own hL) (show i < f + 1 by omega)
            have hst : Hid (lotsOf k S = (done ++ [z]) ++ lotsGo f (left.eraseIdx i) q) := Lib.hid (by
              have := lots_step (z := z) hpre.out (by rw [hi]; exact hz.out)
              rw [hi, hq] at this
              exact this)
            subst hAe
            have hi0 : (0 : Int) ≤ (i : Int) := by omega
            have hi1 : (i : Int) < (f : Int) + 1 := by omega
            have hsz := hG.size
            have hlc := (Sl.own hL).le
            have hcm := (Sl.own hL).max
            have hMb : M ≤ 5 := by omega
            have HL := Lib.hid hL
            have Hap := Lib.hid hap
            clear hz hi hq hpre hL hap
            go_wp2_with (at_builtin; refine wpList_app intE rfl _ _ rfl w.heap.size M _ _ rfl hD [_] rfl rfl (by simp [Value.oneCell']) (by omega) (by omega) hsz ?_; intro B' d' w1 hD1 hb1 hg1 hat1)
            have hL1 := HL.out.kept hg1 Hap.out
            have hap1 := apart_new HL.out Hap.out hat1
            have hG1 := gb_of_below ((gb_below hG).trans hb1) none
            refine (c_Delete w.heap.size (some ⟨b, off, none⟩) f c i left w1 hL1 hif (by omega)).mono ?_
            rintro e w2 ⟨rfl, hL2, hg2⟩
            have hD2 := hD1.kept hg2 (apart_sym hap1)
            have hG2 : w.grownBy w2 none := gb_step hG1 hg2 (fun g e => .inr (hL1.lt g e).1)
            have hap2 : (Value.slice (some ⟨b, off, none⟩) f c).ownBlock = none ∨ (Value.slice (some ⟨b, off, none⟩) f c).ownBlock ≠ (Value.slice B' (M + 1) d').ownBlock := hap1
            have hD3 : w2.ownsRow w.heap.size 3 1 (.slice B' (M + 1) d') (M + 1) ((done ++ [z]).map (Value.int .i64)) := by rw [List.map_append]; exact hD2
            clear hL1 hap1 hG1 hg1 hat1 hb1 hD1 HL Hap hD hG hg2 hD2
            go_wp2
            go_roundw
            case rel => exact ⟨f, q, _, c, M + 1, B', d', left.eraseIdx i, done ++ [z], rfl, rfl, rfl, hL2, hD3, hap2, hG2, hq9, by omega, hst⟩
            case measure => simp [slLen]
  · have e1 : inB n 1 5 = false := by simpa [inB] using h1
    have hno : Hid (lotsOK n seed = false) := Lib.hid (by unfold lotsOK; rw [e1]; rfl)
    go_enter Tryz.func54, Tryz.ntmps54
    go_wp2_with fail
    refine (c_isMany n _).mono ?_
    rintro e w1 ⟨rfl, rfl⟩
    rw [e1]
    go_wp2
    go_ret2
    exact ⟨none, 0, 0, by rw [hno.out]; rfl, gb_refl _ _, by rw [lotsRes, hno.out]; exact own_nil _ _ _ _⟩

def lotPart (w3 : World) (lo n k b off cap : Nat) (fin us1 us2 : List Value) : Nat → Value → World → Prop
  | 0 => fun v x => ∃ c, RowF x w3.heap.size 3 1 fin v 0 c
  | 1 => fun v _ => v = .slice (some ⟨b, off, none⟩) n cap
  | 2 => fun v _ => v = .int .i64 (k : Int)
  | 3 => fun v _ => ∃ A c, v = .slice A k c ∧ Sl w3 lo 1 A k c us1
  | 4 => fun v x => ∃ c, RowF x w3.heap.size 3 1 fin v k c
  | 5 => fun v _ => v = .slice (some ⟨b, off, none⟩) n cap
  | 6 => fun v _ => v = .int .i64 (k : Int)
  | 7 => fun v _ => v = .int .i64 ((k : Int) + 1)
  | 8 => fun v _ => ∃ A c, v = .slice A (n - (k + 1)) c ∧ Sl w3 lo 1 A (n - (k + 1)) c us2
  | 9 => fun v x => ∃ c, RowF x w3.heap.size 3 1 fin v (n - 1) c
  | _ => fun v x => ∃ c, RowF x w3.heap.size 3 1 fin v (n - 1) c
theorem lotPart_kept {w3 : World} {lo n k b off cap : Nat} {fin us1 us2 : List Value} {x y : World} (h : KF w3.heap.size 3 1 fin x y) : ∀ i v, lotPart w3 lo n k b off cap fin us1 us2 i v x → lotPart w3 lo n k b off cap fin us1 us2 i v y := by
  intro i v hv
  unfold lotPart at *
  split at hv
  all_goals first | exact hv | (obtain ⟨c, hv⟩ := hv; exact ⟨c, hv.keep h⟩)

attribute [local go_sem] flowAct flowOp_def flowUpon
set_option maxHeartbeats 8000000 in
theorem c_spec_LotsOf (n seed : Int) (w : World) :
    Calls Tryz.prog 68 #[.int .i64 n, .int .i64 seed] w fun e w' => ∃ D m c, e = .returned (.tuple #[.slice D m c, .bool (lotsOK n seed)]) ∧ w.grownBy w' none ∧ w'.ownsRow w.heap.size 3 1 (.slice D m c) m ((lotsRes n seed).map (Value.int .i64)) := by
  by_cases h1 : 1 ≤ n ∧ n ≤ 5
  · have e1 : inB n 1 5 = true := by simpa [inB] using h1
    by_cases h2 : 0 ≤ seed ∧ seed ≤ 999
    · have e2 : inB seed 0 999 = true := by simpa [inB] using h2
      obtain ⟨N, rfl⟩ : ∃ N : Nat, n = (N : Int) := ⟨n.toNat, by omega⟩
      obtain ⟨S, rfl⟩ : ∃ S : Nat, seed = (S : Int) := ⟨seed.toNat, by omega⟩
      have hyes : Hid (lotsOK (N : Int) (S : Int) = true) := Lib.hid (by rw [lotsOK_iff]; omega)
      have hN1 : 1 ≤ N := by omega
      have hN5 : N ≤ 5 := by omega
      have hS9 : S ≤ 999 := by omega
      clear h1 h2
      go_enter Tryz.func68, Tryz.ntmps68
      go_wp2_with fail
      refine (c_l6In _ _ _ _).mono ?_
      rintro e w1 ⟨rfl, rfl⟩
      rw [e1]
      go_wp2_with fail
      refine (c_l6In _ _ _ _).mono ?_
      rintro e w1 ⟨rfl, rfl⟩
      rw [e2]
      clear e1 e2
      go_wp2
      go_loopw [6, 7] (fun v i wr => ∃ (k : Nat) (A : Option Addr) (c : Nat), k ≤ N ∧ i = .int .i64 k ∧ v = .slice A k c ∧ wr.ownsRow w.heap.size 3 1 (.slice A k c) k ((iota k).map (Value.int .i64)) ∧ Below w.heap.size w wr) (fun _ i _ => N - (intOf i).toNat)
      case atStart => exact ⟨0, _, _, Nat.zero_le _, rfl, rfl, own_empty _ _ _ _ (Nat.le_refl _), (Below.refl _ _).alloc (Nat.le_refl _) _⟩
      case round =>
        obtain ⟨k, A, c, hk, rfl, rfl, hown, hb⟩ := hrel
        rename World => wr
        by_cases hlt : k < N
        · have hbs := hb.size
          have hk' : (k : Int) < (N : Int) := by omega
          go_wp2_with (at_builtin; refine wpList_app intE rfl _ _ rfl w.heap.size k _ _ rfl hown [_] rfl rfl (by simp [Value.oneCell']) (by omega) (by omega) hbs ?_; intro A' c' w1 hown1 hb1 hg1 hat1)
          go_roundw
          case rel => exact ⟨k + 1, A', c', by omega, by go_num, rfl, by rw [iota_succ, List.map_append]; exact hown1, hb.trans hb1⟩
          case measure => simp [intOf]; omega
        · obtain rfl : N = k := by omega
          have hG0 := gb_of_below hb none
          have hgA := gb_alloc hG0 (.cells #[] 3)
          have hown' : (wr.alloc (.cells #[] 3)).ownsRow w.heap.size 3 1 (.slice A N c) N ((iota N).map (Value.int .i64)) := own_below hown (gb_alloc (gb_refl wr none) _)
          have hwz := hG0.size
          clear hlt hk hb
          go_wp2
          go_loopw [1, 6, 8] (fun sd v o wr => ∃ (f s : Nat) (A : Option Addr) (c M : Nat) (B : Option Addr) (d : Nat) (left done : List Int), sd = .int .i64 s ∧ v = .slice A f c ∧ o = .slice B M d ∧ wr.ownsRow w.heap.size 3 1 (.slice A f c) f (left.map (Value.int .i64)) ∧ wr.ownsRow w.heap.size 3 1 (.slice B M d) M (done.map (Value.int .i64)) ∧
            ((Value.slice A f c).ownBlock = none ∨ (Value.slice A f c).ownBlock ≠ (Value.slice B M d).ownBlock) ∧ w.grownBy wr none ∧ s ≤ 999 ∧ f + M = N ∧ Hid (lotsOf N S = done ++ lotsGo f left s)) (fun _ v _ _ => slLen v)
          case atStart => exact ⟨N, S, A, c, 0, some ⟨wr.heap.size, 0, none⟩, 0, _, [], rfl, rfl, rfl, hown', own_empty _ _ _ _ hwz, apart_new (o := none) hown (by
            cases e : (Value.slice A N c).ownBlock with
            | none => exact .inl rfl
            | some g => exact .inr (by simp)) (.inr ⟨wr.heap.size, rfl, Nat.le_refl _⟩), hgA, hS9, by omega, Lib.hid rfl⟩
          case round =>
            obtain ⟨n, s, A, cap, M, B, d, left, done, rfl, rfl, rfl, hL, hD, hap, hG, hs9, hfM, hpre⟩ := hrel
            rename World => wr
            clear hown hG0 hown' hgA hwz
            by_cases hn0 : n = 0
            · subst hn0
              have hdl : Hid (done.map (Value.int .i64) = (lotsRes (N : Int) (S : Int)).map (Value.int .i64)) := Lib.hid (by rw [lotsRes, hyes.out, if_pos rfl, Int.toNat_natCast, Int.toNat_natCast, hpre.out, lotsGo, List.append_nil])
              rw [hdl.out] at hD
              go_wp2
              go_ret2
              exact ⟨B, M, d, by rw [hyes.out]; rfl, hG, hD⟩
            · obtain ⟨f, hf⟩ : ∃ f, n = f + 1 := ⟨n - 1, by omega⟩
              obtain ⟨k, hi⟩ : ∃ k, s % n = k := ⟨_, rfl⟩
              obtain ⟨q, hq⟩ : ∃ q, s / n = q := ⟨_, rfl⟩
              have hif : k < n := by rw [← hi]; exact Nat.mod_lt s (by omega)
              have hrem : (s : Int).tmod (n : Int) = (k : Int) := by rw [← hi]; exact rem_nat s n
              have hquo : (s : Int).tdiv (n : Int) = (q : Int) := by rw [← hq]; exact quo_nat s n
              have hq9 : q ≤ 999 := by rw [← hq]; exact Nat.le_trans (Nat.div_le_self _ _) hs9
              have hpos : (0 : Int) < (n : Int) := by omega
              have hnz : ¬ ((n : Int) = 0) := by omega
              obtain ⟨b, off, z, hAe, hz, hcell⟩ := Ints.at_ (show Ints wr w.heap.size A n cap left from Sl.own hL) hif
              have hst : Hid (lotsOf N S = (done ++ [z]) ++ lotsGo (n - 1) (left.eraseIdx k) q) := Lib.hid (by
                subst hf
                have := lots_step (z := z) hpre.out (by rw [hi]; exact hz.out)
                rw [hi, hq] at this
                exact this)
              subst hAe
              have hi0 : (0 : Int) ≤ (k : Int) := by omega
              have hi1 : (k : Int) < (n : Int) := by omega
              have hsz := hG.size
              have hlc := (Sl.own hL).le
              have hcm := (Sl.own hL).max
              have hMb : M ≤ 5 := by omega
              have hn5 : n ≤ 5 := by omega
              have HL := Lib.hid hL
              have Hap := Lib.hid hap
              have hll : left.length = n := by have := hL.1; simpa using this
              clear hz hi hq hpre hL hap hf
              go_wp2_with (at_builtin; refine wpList_app intE rfl _ _ rfl w.heap.size M _ _ rfl hD [_] rfl rfl (by simp [Value.oneCell']) (by omega) (by omega) hsz ?_; intro B' d' w1 hD1 hb1 hg1 hat1)
              have hL1 := HL.out.kept hg1 Hap.out
              have hap1 := apart_new HL.out Hap.out hat1
              have hG1 := gb_of_below ((gb_below hG).trans hb1) none
              obtain ⟨us1, hus1⟩ : ∃ u, (left.map (Value.int .i64)).take k = u := ⟨_, rfl⟩
              obtain ⟨us2, hus2⟩ : ∃ u, (left.map (Value.int .i64)).drop (k + 1) = u := ⟨_, rfl⟩
              obtain ⟨fin, hfin⟩ : ∃ f, us1 ++ us2 = f := ⟨_, rfl⟩
              have hone : ∀ u ∈ left.map (Value.int .i64), u.oneCell' = true := fun u hu => by
                obtain ⟨y, _, rfl⟩ := List.mem_map.1 hu
                rfl
              have h11 : Hid (∀ u ∈ us1, u.oneCell' = true) := Lib.hid (fun u hu => hone u (by rw [← hus1] at hu; exact List.mem_of_mem_take hu))
              have h12 : Hid (∀ u ∈ us2, u.oneCell' = true) := Lib.hid (fun u hu => hone u (by rw [← hus2] at hu; exact List.mem_of_mem_drop hu))
              have hl1 : us1.length = k := by rw [← hus1, List.length_take, List.length_map]; omega
              have hl2 : us2.length = n - (k + 1) := by rw [← hus2, List.length_drop, List.length_map, hll]
              have hf1 : Hid (∀ j, j < k * 1 → fin[0 * 1 + j]? = us1[j]?) := Lib.hid (fun j hj => by rw [← hfin, Nat.zero_mul, Nat.zero_add, List.getElem?_append_left (by omega)])
              have hf2 : Hid (∀ j, j < (n - (k + 1)) * 1 → fin[k * 1 + j]? = us2[j]?) := Lib.hid (fun j hj => by rw [← hfin, List.getElem?_append_right (by omega), hl1, show k * 1 + j - k = j from by omega])
              have hSl1 : Sl w1 w.heap.size 1 (some ⟨b, off, none⟩) n cap (left.map (Value.int .i64)) := Sl.own hL1
              have hs1 : Hid (Sl w1 w.heap.size 1 (some ⟨b, off, none⟩) k cap us1) := Lib.hid (by
                have := hSl1.take (k := k) (by omega)
                rw [Nat.mul_one, hus1] at this
                exact this)
              have hs2 : Hid (Sl w1 w.heap.size 1 (if cap = k + 1 then some ⟨b, off, none⟩ else some ⟨b, off + (k + 1), none⟩) (n - (k + 1)) (cap - (k + 1)) us2) := Lib.hid (by
                have := hSl1.drop (k := k + 1) (by omega)
                simp only [Option.map_some, add_off, Nat.mul_one, hus2] at this
                exact this)
              have hfe : Hid (fin = (left.eraseIdx k).map (Value.int .i64) ∧ fin.length = (n - 1) * 1) := Lib.hid ⟨by rw [← hfin, ← hus1, ← hus2, List.eraseIdx_eq_take_drop_succ, List.map_append, List.map_take, List.map_drop], by rw [← hfin, List.length_append, hl1, hl2]; omega⟩
              have HD1 := Lib.hid hD1
              have hicap : (k : Int) ≤ (cap : Int) := by omega
              have hi1n : (k : Int) + 1 ≤ (n : Int) := by omega
              have hi1c : (k : Int) + 1 ≤ (cap : Int) := by omega
              have hi10 : (0 : Int) ≤ (k : Int) + 1 := by omega
              have hnc : (n : Int) ≤ (cap : Int) := by omega
              have t1 : ((k : Int) + 1).toNat = k + 1 := by omega
              have hw1 : IntKind.i64.wrap ((k : Int) + 1) = (k : Int) + 1 := IntWalk.i64_in _ (by omega)
              clear hone hl1 hl2 hfin hus1 hus2 hL1 hSl1 hg1 hat1 hb1 hD1 HL Hap hD hG hll hcell
              refine wp_flow2 (by kernel_rfl) (by kernel_rfl) (fun _ zx => Below w1.heap.size w1 zx ∧ w1.heap.size ≤ zx.heap.size) (fun _ zx zy => KF w1.heap.size 3 1 fin zx zy) (lotPart w1 w.heap.size n k b off cap fin us1 us2) ⟨(Below.refl _ _).drew, Nat.le_refl _⟩ (fun i zx zy hT hC => ⟨hC.1.trans hT.1, Nat.le_trans hC.2 hT.1.size⟩) (fun i zx zy hT _ => lotPart_kept hT) ?_ ?_
              · refine ⟨fun i u zz hn hC hp hu => ?_, fun i u zz hn hC hp hu => ?_, fun i u zz hn hC hp hu => ?_, fun i u zz hn hC hp hu => ?_, fun i u zz hn hC hp hu => ?_, fun i u zz hn hC hp hu => ?_, fun i u zz hn hC hp hu => ?_, fun i u zz hn hC hp hu => ?_, fun i u zz hn hC hp hu => ?_, fun i u zz hn hC hp hu => ?_, fun i u zz hn hC hp hu => ?_, trivial⟩
                · clear hp
                  go_simp
                  exact ⟨KF.of_gb (gb_alloc (gb_refl _ _) _) hC.2, 0, RowF.empty _ hC.2⟩
                · have e10 : u 10 = .slice (some ⟨b, off, none⟩) n cap := hu 10 _ rfl (by decide) _ rfl
                  clear hp
                  go_simp
                  exact ⟨KF.of_gb (gb_refl _ _) hC.2, rfl⟩
                · clear hp
                  go_simp
                  exact ⟨KF.of_gb (gb_refl _ _) hC.2, rfl⟩
                · have e1 : u 1 = .slice (some ⟨b, off, none⟩) n cap := hp 1 (by decide)
                  have e2 : u 2 = .int .i64 (k : Int) := hp 2 (by decide)
                  clear hp
                  go_simp
                  exact ⟨KF.of_gb (gb_refl _ _) hC.2, _, _, rfl, hs1.out⟩
                · obtain ⟨cR, hR⟩ := (show ∃ c, RowF zz _ _ _ _ (u 0) 0 c from hp 0 (by decide))
                  obtain ⟨A1, c1, e3, h3⟩ := (show ∃ A c, u 3 = .slice A k c ∧ Sl w1 w.heap.size 1 A k c us1 from hp 3 (by decide))
                  have h3x := h3.keep0 (gb_of_below hC.1 none)
                  obtain ⟨v', c', y, hr, hK, hF⟩ := chain_app intE hR hC.2 (A := A1) (m := k) (c0 := c1) (us := us1) (fun e => h3x.none_zero e) h3x.2.2.1 (fun a e => h3x.addr e) h11.out hf1.out (by omega) (by omega) 62
                  rw [← e3] at hr
                  rw [show 0 + k = k from by omega] at hF
                  refine flowOp_chain (by go_simp) (.tmp 48) (.tmp 51) rfl (by go_simp) (by go_simp) hr ⟨hK, c', hF⟩
                · have e10 : u 10 = .slice (some ⟨b, off, none⟩) n cap := hu 10 _ rfl (by decide) _ rfl
                  clear hp
                  go_simp
                  exact ⟨KF.of_gb (gb_refl _ _) hC.2, rfl⟩
                · clear hp
                  go_simp
                  exact ⟨KF.of_gb (gb_refl _ _) hC.2, rfl⟩
                · have e1 : u 6 = .int .i64 (k : Int) := hp 6 (by decide)
                  clear hp
                  go_simp
                  exact ⟨KF.of_gb (gb_refl _ _) hC.2, rfl⟩
                · have e1 : u 5 = .slice (some ⟨b, off, none⟩) n cap := hp 5 (by decide)
                  have e2 : u 7 = .int .i64 ((k : Int) + 1) := hp 7 (by decide)
                  clear hp
                  go_simp
                  exact ⟨KF.of_gb (gb_refl _ _) hC.2, _, _, rfl, hs2.out⟩
                · obtain ⟨cR, hR⟩ := (show ∃ c, RowF zz _ _ _ _ (u 4) k c from hp 4 (by decide))
                  obtain ⟨A1, c1, e3, h3⟩ := (show ∃ A c, u 8 = .slice A (n - (k + 1)) c ∧ Sl w1 w.heap.size 1 A (n - (k + 1)) c us2 from hp 8 (by decide))
                  have h3x := h3.keep0 (gb_of_below hC.1 none)
                  obtain ⟨v', c', y, hr, hK, hF⟩ := chain_app intE hR hC.2 (A := A1) (m := (n - (k + 1))) (c0 := c1) (us := us2) (fun e => h3x.none_zero e) h3x.2.2.1 (fun a e => h3x.addr e) h12.out hf2.out (by omega) (by omega) 62
                  rw [← e3] at hr
                  rw [show k + (n - (k + 1)) = (n - 1) from by omega] at hF
                  refine flowOp_chain (by go_simp) (.tmp 52) (.tmp 56) rfl (by go_simp) (by go_simp) hr ⟨hK, c', hF⟩
                · obtain ⟨cR, hR⟩ := (show ∃ c, RowF zz _ _ _ _ (u 9) (n - 1) c from hp 9 (by decide))
                  clear hp
                  go_simp
                  exact ⟨KF.of_gb (gb_refl _ _) hC.2, cR, hR⟩
              · intro iA uA x hnA hC hp
                obtain ⟨cA, hR⟩ := (show ∃ c, RowF x w1.heap.size 3 1 fin (uA 10) (n - 1) c from hp 10 (by decide))
                obtain ⟨gA, e10, ho⟩ := hR.own hfe.out.2
                have hgx := gb_of_below hC.1 none
                have hG2 := gb_trans hG1 hgx
                have hD2 := own_below HD1.out hgx
                rw [hfe.out.1] at ho
                have hD3 : x.ownsRow w.heap.size 3 1 (.slice B' (M + 1) d') (M + 1) ((done ++ [z]).map (Value.int .i64)) := by rw [List.map_append]; exact hD2
                have ho2 := own_lo ho hG1.size
                have hap2 : (Value.slice (some ⟨gA, 0, none⟩) (n - 1) cA).ownBlock = none ∨ (Value.slice (some ⟨gA, 0, none⟩) (n - 1) cA).ownBlock ≠ (Value.slice B' (M + 1) d').ownBlock := .inr (fun e => by
                  have h6 := (ho.lt gA rfl).1
                  have h7 := (HD1.out.lt gA (by rw [← e]; rfl)).2
                  omega)
                clear hp hR hC hD2 ho hap1
                go_simp
                go_wp2
                go_roundw
                case rel => exact ⟨n - 1, q, _, cA, M + 1, B', d', left.eraseIdx k, done ++ [z], rfl, rfl, rfl, ho2, hD3, hap2, hG2, hq9, by omega, hst⟩
                case measure => simp [slLen]; omega
    · have e2 : inB seed 0 999 = false := by simpa [inB] using h2
      have hno : Hid (lotsOK n seed = false) := Lib.hid (by unfold lotsOK; rw [e2]; simp)
      clear h2
      go_enter Tryz.func68, Tryz.ntmps68
      go_wp2_with fail
      refine (c_l6In _ _ _ _).mono ?_
      rintro e w1 ⟨rfl, rfl⟩
      rw [e1]
      go_wp2_with fail
      refine (c_l6In _ _ _ _).mono ?_
      rintro e w1 ⟨rfl, rfl⟩
      rw [e2]
      go_wp2
      go_ret2
      exact ⟨_, 0, 0, by rw [hno.out]; rfl, gb_alloc (gb_refl _ _) _, by rw [lotsRes, hno.out]; exact own_empty _ _ _ _ (Nat.le_refl _)⟩
  · have e1 : inB n 1 5 = false := by simpa [inB] using h1
    have hno : Hid (lotsOK n seed = false) := Lib.hid (by unfold lotsOK; rw [e1]; rfl)
    go_enter Tryz.func68, Tryz.ntmps68
    go_wp2_with fail
    refine (c_l6In _ _ _ _).mono ?_
    rintro e w1 ⟨rfl, rfl⟩
    rw [e1]
    go_wp2
    go_ret2
    exact ⟨_, 0, 0, by rw [hno.out]; rfl, gb_alloc (gb_refl _ _) _, by rw [lotsRes, hno.out]; exact own_empty _ _ _ _ (Nat.le_refl _)⟩
end Go.Proofs.YtboobimpoddacaaGreatDoor
