/-
  BatchesChange of the program: by a map, whose texts come in any order.
-/
import Derived.Test.YtbhchlnbhimcpaaChangeS
import Derived.Maps.RangeWalk
namespace Go.Proofs.Ytbhchlnbhimcpaa
open Go.RowKit Go.Maps Go.WideMaps
set_option linter.unusedVariables false

/-- The step over a map whose keys are texts and whose elements are integers. -/
theorem wpList_next_si {H : Type} {P : Program} (w : World) {ops : Array Oper} {rest : List Oper} {o : Oper} {a : Act} {Q : Exit → Act → World → Prop}
    (hg : o.guard = none) (it : Operand) (hop : o.op = Op.next it false) (k e : TypeId) (qe : IntKind) (K : Keyed P k) (hk : P.underlying k = some .string) (he : P.underlying e = some (.int qe))
    (b r n : Nat) (D : DataW H) (left : Lit → Bool) (cnt : Nat) (hit : a.eval it = .pointer (some ⟨r, 0, none⟩)) (h : w.ranges P k (plainElem P e) b r n D left cnt)
    (hDone : cnt = 0 → (∀ kl, left kl = false) → wpList P ops Q rest (a.put o.dst (.tuple #[.bool false])) w)
    (hMore : ∀ (t : ByteArray) (c : Int) (w' : World) (cnt' : Nat), left (kS t) = true → (∀ zd, D.atKey (kS t) zd = .lit (.int qe c)) → w'.ranges P k (plainElem P e) b r n D (fun z => left z && !z.sameKey (kS t)) cnt' → cnt' < cnt →
      w.grownBy w' (some r) → w'.heap.size = w.heap.size → (Instr.entry (.pointer (some ⟨r, 0, none⟩))).run P w' = .ok (.tuple #[.string t, .int qe c]) w' → wpList P ops Q rest (a.put o.dst (.tuple #[.bool true, .string t, .int qe c])) w') :
    wpList P ops Q (o :: rest) a w :=
  wpList_next_ranges w hg it hop k K (plainElem P e) Value.string (Value.int qe) (fun key kl hkey => by obtain ⟨x, rfl, _⟩ := string_of_keyOf hk hkey; exact ⟨x, rfl⟩) (fun v y hv => by obtain ⟨c, rfl, _⟩ := plainElem_int_inv he hv; exact ⟨c, rfl⟩)
    b r n D left cnt hit h hDone (fun x c kl y w' cnt' hkey hlk hv hat hrg hlt hgr hsz hen => by
      obtain ⟨x', ex, rfl, hwx⟩ := string_of_keyOf hk hkey
      cases ex
      obtain ⟨c', ec, rfl, hwc⟩ := plainElem_int_inv he hv
      cases ec
      exact hMore x c w' cnt' hlk hat hrg hlt hgr hsz hen)

theorem gb_two {a w w' : World} {M : Nat} (h : a.grownBy w none) (k : w.grownBy w' (some M)) (hM : a.heap.size ≤ M) : a.grownBy w' none := gb_step h k (fun g e => by injection e with e; right; omega)

set_option maxRecDepth 100000 in
set_option maxHeartbeats 4000000 in
theorem c_impl_BatchesChange (lo lo' : Nat) (A B : Option Addr) (n cap m cap' : Nat) (cs bs : List Bt) (w : World) (ha : Bats w lo A n cap cs) (hb : Bats w lo' B m cap' bs) (hlo : lo ≤ w.heap.size) (hlo' : lo' ≤ w.heap.size) (hn : n ≤ 2000000) (hm : m ≤ 2000000)
    (hs : ∀ b ∈ cs, ∀ p ∈ b.2.2, p.1.size ≤ 2000000) (hs' : ∀ b ∈ bs, ∀ p ∈ b.2.2, p.1.size ≤ 2000000) :
    Calls Try.prog 45 #[.slice A n cap, .slice B m cap'] w (ChgRes cs bs w) := by
  have hc1 := Lib.hid (c_impl_BatchesTotal lo A n cap cs w ha hlo hn hs)
  have hc2 : Hid (∀ w' : World, w.grownBy w' none → Calls Try.prog 37 #[.slice B m cap'] w' (PilesOkRes (totRes bs) (totOK bs) w')) := Lib.hid (fun w' hg => c_impl_BatchesTotal lo' B m cap' bs w' (Recs.keep0 hb hg) (Nat.le_trans hlo' hg.size) hm hs')
  have hsz1 := Lib.hid (tot_sizes hs)
  have hsz2 := Lib.hid (tot_sizes hs')
  clear ha hb hs hs'
  obtain ⟨xs, hxs⟩ : ∃ xs, totRes cs = xs := ⟨_, rfl⟩
  have Hxs := Lib.hid hxs
  obtain ⟨ys, hys⟩ : ∃ ys, totRes bs = ys := ⟨_, rfl⟩
  have Hys := Lib.hid hys
  obtain ⟨O1, hO1⟩ : ∃ O, totOK cs = O := ⟨_, rfl⟩
  have HO1 := Lib.hid hO1
  obtain ⟨O2, hO2⟩ : ∃ O, totOK bs = O := ⟨_, rfl⟩
  have HO2 := Lib.hid hO2
  have Hres : Hid (chgRes cs bs = if (O1 && O2) = true then sumPl (chgL xs ys) else 0) := Lib.hid (by rw [chgRes, chgOK, hO1, hO2, hxs, hys])
  have Hok : Hid (chgOK cs bs = (O1 && O2)) := Lib.hid (by rw [chgOK, hO1, hO2])
  rw [hxs, hO1] at hc1
  rw [hys, hO2] at hc2
  rw [hxs] at hsz1
  rw [hys] at hsz2
  obtain ⟨N, hN⟩ : ∃ N, xs.length = N := ⟨_, rfl⟩
  have HN := Lib.hid hN
  obtain ⟨M, hM⟩ : ∃ M, ys.length = M := ⟨_, rfl⟩
  have HM := Lib.hid hM
  have hmm := @run_makeMap Try.prog
  clear hxs hys hO1 hO2 hN hM
  go_enter Try.func45, Try.ntmps45
  go_wp2_with fail
  refine hc1.out.mono ?_
  rintro e w1 ⟨B1, c1, rfl, hg1, ho1⟩
  rw [HN.out] at ho1
  rw [HN.out]
  go_wp2_with fail
  refine (hc2.out _ hg1).mono ?_
  rintro e w2 ⟨B2, c2, rfl, hg2, ho2⟩
  rw [HM.out] at ho2
  rw [HM.out]
  have hG2 := gb_trans hg1 hg2
  have hP1 := Piles.keep0 (Sl.own ho1) hg2
  have hP2 : Piles w2 w1.heap.size B2 M c2 ys := Sl.own ho2
  have hl1 := hP1.1
  have hl2 := hP2.1
  have hm1 := Sl.max hP1
  have hm2 := Sl.max hP2
  clear ho1 ho2
  rcases hOO : (O1 && O2) with _ | _
  · have Hoo := Lib.hid hOO
    have hres0 : Hid (ChgRes cs bs w (.returned (.tuple #[.int .i64 0, .bool false])) w2) := Lib.hid ⟨by rw [Hres.out, Hok.out, hOO]; rfl, hG2⟩
    cases O1 with
    | false =>
      clear hOO
      go_wp2
      go_ret2
      exact hres0.out
    | true =>
      cases O2 with
      | false =>
        clear hOO
        go_wp2
        go_ret2
        exact hres0.out
      | true => cases hOO
  · obtain ⟨rfl, rfl⟩ : O1 = true ∧ O2 = true := by cases O1 <;> cases O2 <;> simp_all
    have hx : Hid (Vld xs) := Lib.hid (by rw [← Hxs.out]; exact (tot_vld HO1.out).1)
    have hy : Hid (Vld ys) := Lib.hid (by rw [← Hys.out]; exact (tot_vld HO2.out).1)
    have hfin : Hid (∀ x : World, w2.grownBy x none → ChgRes cs bs w (.returned (.tuple #[.int .i64 (sumPl (chgL xs ys)), .bool true])) x) := Lib.hid (fun x hg => ⟨by rw [Hres.out, Hok.out, hOO, if_pos rfl], gb_trans hG2 hg⟩)
    have hN12 : N ≤ 12 := by have := hx.out.len; rw [HN.out] at this; exact this
    have hM12 : M ≤ 12 := by have := hy.out.len; rw [HM.out] at this; exact this
    have hsx : Hid (∀ j, Small (xs.take j)) := Lib.hid (fun j => ⟨fun e he => by have := hx.out.val e (List.mem_of_mem_take he); omega, by have := hx.out.len; rw [List.length_take]; omega⟩)
    have hsy : Hid (∀ j, Small (ys.take j)) := Lib.hid (fun j => ⟨fun e he => by have := hy.out.val e (List.mem_of_mem_take he); omega, by have := hy.out.len; rw [List.length_take]; omega⟩)
    clear hOO
    go_wp2
    clear hmm
    go_loopw [37] (fun i x => ∃ (j : Nat) (D : DataW Unit), j ≤ N ∧ i = .int .i64 j ∧ MapIn x w2.heap.size j D ∧ Hid (MapOf D (fun t => t ∈ (xs.take j).map (·.1)) (tot (xs.take j))) ∧ w2.grownBy x none) (fun i _ => N - (intOf i).toNat)
    case atStart => exact ⟨0, _, Nat.zero_le _, rfl, World.ownsMap_made _ _ _ _, Lib.hid (MapOf.start.congr (fun t => by simp) (fun t => rfl)), gb_alloc (gb_refl _ _) _⟩
    case round =>
      obtain ⟨j, D, hj, rfl, hown, hD, hG⟩ := hrel
      rename World => x
      by_cases hjN : j < N
      · obtain ⟨b', off', ⟨s, q⟩, rfl, _, _, hz, p0, p1⟩ := Piles.at_ (hP1.keep0 hG) hjN
        have hmem := List.mem_of_getElem? hz.out
        have hsz : s.size ≤ 2000000 := hsz1.out _ hmem
        have hq : 1 ≤ q ∧ q ≤ 99 := hx.out.val _ hmem
        obtain ⟨hq0, hq1⟩ := hq
        have hkey : keyOf Try.prog 9 (.string s) = some (kS s) := keyOf_string_mk Try.underlying9 (by unfold maxLen; omega)
        have htb := tot_bound (hsx.out j) s
        have hl1' : (xs.take j).length ≤ 12 := by have := hx.out.len; rw [List.length_take]; omega
        obtain ⟨F, hF⟩ : ∃ F, tot (xs.take j) s = F := ⟨_, rfl⟩
        have HF := Lib.hid hF
        rw [hF] at htb
        have hF0 : 0 ≤ F := htb.1
        have hF1 : F ≤ 1188 := by have := htb.2; omega
        have hstep : Hid (xs.take (j + 1) = xs.take j ++ [(s, q)]) := Lib.hid (take_succ_of hz.out)
        clear hmem htb hF hl1'
        have hj' : (j : Int) < (N : Int) := by omega
        have hj0 : (0 : Int) ≤ (j : Int) := by omega
        have hGa := gb_alloc (gb_refl x none) (.cells #[.string s, .int .i64 q] 73)
        have hown1 := om_keep hown hGa (by simp)
        have hGx := gb_trans hG hGa
        have Hvl := Lib.hid (hD.out.val s)
        clear hown
        go_wp2_with (first
          | (at_lookup; refine wpList_lookup_own_int _ rfl _ _ 81 rfl 9 3 .i64 keysLaw Try.underlying81 Try.underlying3 (zeroInt _) w2.heap.size _ _ rfl hown1 _ _ rfl hkey ?_; intro c hat hwc; obtain rfl : F = c := by (rw [Hvl.out, HF.out] at hat; injection hat with hat; injection hat with _ hat))
          | (at_mapUpdate; refine wpList_mapUpdate_own _ rfl _ _ _ 81 rfl 9 3 keysLaw Try.underlying81 _ w2.heap.size _ _ rfl hown1 (by unfold maxLen; omega) _ _ _ rfl rfl hkey _ [] (plainElem_int Try.underlying3 (WalkArith.wf_i64 (by omega))) ?_; intro w4 hown2 hgrow2))
        go_roundw
        case rel =>
          refine ⟨j + 1, D.put (kS s) (.lit (.int .i64 (F + q))), by omega, by go_num, hown2, Lib.hid ((hD.out.put s (F + q)).congr (fun t => ?_) (fun t => ?_)), gb_two hGx hgrow2 (Nat.le_refl _)⟩
          · show _ ↔ t ∈ (xs.take (j + 1)).map (·.1)
            rw [hstep.out, texts_snoc]
          · rw [hstep.out, tot_snoc, HF.out]
        case measure => simp [intOf]; omega
      · obtain rfl : j = N := by omega
        rw [List.take_of_length_le (by rw [HN.out]; exact Nat.le_refl _)] at hD
        go_wp2
        go_loopw [51] (fun i x => ∃ (i' : Nat) (D : DataW Unit), i' ≤ M ∧ i = .int .i64 i' ∧ MapIn x w2.heap.size (j + i') D ∧ Hid (MapOf D (fun t => t ∈ xs.map (·.1) ∨ t ∈ (ys.take i').map (·.1)) (fun t => tot xs t - tot (ys.take i') t)) ∧ w2.grownBy x none) (fun i _ => M - (intOf i).toNat)
        case atStart => exact ⟨0, D, Nat.zero_le _, rfl, hown, Lib.hid (hD.out.congr (fun t => by simp) (fun t => by simp [tot_nil])), hG⟩
        case round =>
          clear hown hD hG
          obtain ⟨i, D, hi, rfl, hown, hD, hG⟩ := hrel
          rename World => x
          by_cases hiM : i < M
          · obtain ⟨b', off', ⟨s, q⟩, rfl, _, _, hz, p0, p1⟩ := Piles.at_ (hP2.keep0 hG) hiM
            have hmem := List.mem_of_getElem? hz.out
            have hsz : s.size ≤ 2000000 := hsz2.out _ hmem
            have hq : 1 ≤ q ∧ q ≤ 99 := hy.out.val _ hmem
            obtain ⟨hq0, hq1⟩ := hq
            have hkey : keyOf Try.prog 9 (.string s) = some (kS s) := keyOf_string_mk Try.underlying9 (by unfold maxLen; omega)
            have htb := tot_bound (hsy.out i) s
            have htx := tot_bound (hsx.out j) s
            rw [List.take_of_length_le (by rw [HN.out]; exact Nat.le_refl _)] at htx
            have hl1' : (ys.take i).length ≤ 12 := by have := hy.out.len; rw [List.length_take]; omega
            have hl2' := hx.out.len
            obtain ⟨F, hF⟩ : ∃ F, tot xs s - tot (ys.take i) s = F := ⟨_, rfl⟩
            have HF := Lib.hid hF
            have hF0 : -1188 ≤ F := by omega
            have hF1 : F ≤ 1188 := by omega
            have hstep : Hid (ys.take (i + 1) = ys.take i ++ [(s, q)]) := Lib.hid (take_succ_of hz.out)
            clear hmem htb htx hF hl1' hl2'
            have hi' : (i : Int) < (M : Int) := by omega
            have hi0 : (0 : Int) ≤ (i : Int) := by omega
            have hGa := gb_alloc (gb_refl x none) (.cells #[.string s, .int .i64 q] 73)
            have hown1 := om_keep hown hGa (by simp)
            have hGx := gb_trans hG hGa
            have Hvl := Lib.hid (hD.out.val s)
            clear hown
            go_wp2_with (first
              | (at_lookup; refine wpList_lookup_own_int _ rfl _ _ 81 rfl 9 3 .i64 keysLaw Try.underlying81 Try.underlying3 (zeroInt _) w2.heap.size _ _ rfl hown1 _ _ rfl hkey ?_; intro c hat hwc; obtain rfl : F = c := by (rw [Hvl.out, HF.out] at hat; injection hat with hat; injection hat with _ hat))
              | (at_mapUpdate; refine wpList_mapUpdate_own _ rfl _ _ _ 81 rfl 9 3 keysLaw Try.underlying81 _ w2.heap.size _ _ rfl hown1 (by unfold maxLen; omega) _ _ _ rfl rfl hkey _ [] (plainElem_int Try.underlying3 (WalkArith.wf_i64 (by omega))) ?_; intro w4 hown2 hgrow2))
            go_roundw
            case rel =>
              refine ⟨i + 1, D.put (kS s) (.lit (.int .i64 (F - q))), by omega, by go_num, hown2, Lib.hid ((hD.out.put s (F - q)).congr (fun t => ?_) (fun t => ?_)), gb_two hGx hgrow2 (Nat.le_refl _)⟩
              · show _ ↔ _ ∨ t ∈ (ys.take (i + 1)).map (·.1)
                rw [hstep.out, texts_snoc]
                constructor
                · rintro (h1 | h1 | h1)
                  · exact .inr (.inl h1)
                  · exact .inl h1
                  · exact .inr (.inr h1)
                · rintro (h1 | h1 | h1)
                  · exact .inr (.inl h1)
                  · exact .inl h1
                  · exact .inr (.inr h1)
              · rw [hstep.out, tot_snoc]
                have := HF.out
                split
                · rename_i e
                  subst e
                  show F - q = tot xs t - (tot (ys.take i) t + q)
                  omega
                · rfl
            case measure => simp [intOf]; omega
          · obtain rfl : i = M := by omega
            rw [List.take_of_length_le (by rw [HM.out]; exact Nat.le_refl _)] at hD
            have hMb : w2.heap.size < x.heap.size := hown.lt
            go_wp2_with (first | (at_range; refine wpList_range_own _ rfl _ 81 rfl 9 3 keysLaw Try.underlying81 _ w2.heap.size _ D rfl hown ?_; intro w5 hrg0 hg5 hs5) | go_in)
            have hL1 := Lib.hid (chgL_val hx.out hy.out)
            have hL2 := Lib.hid (chgL_len hx.out hy.out)
            have hL3 := Lib.hid (chgL_texts hx.out hy.out)
            have hfv : Hid (∀ t, tot xs t - tot ys t = look xs t - look ys t) := Lib.hid (fun t => by rw [tot_look hx.out.asc, tot_look hy.out.asc])
            have hLm : Hid (∀ t, (t ∈ xs.map (·.1) ∨ t ∈ ys.map (·.1)) → (t, mx (tot xs t - tot ys t)) ∈ chgL xs ys) := Lib.hid (fun t ht => by rw [hfv.out]; exact chgL_mem hx.out hy.out ht)
            have hLk : Hid (∀ p ∈ chgL xs ys, p.1 ∈ xs.map (·.1) ∨ p.1 ∈ ys.map (·.1)) := Lib.hid (fun p hp => by
              rcases List.mem_append.1 hp with hp | hp
              · obtain ⟨q, hq, rfl⟩ := List.mem_map.1 hp
                exact .inl (List.mem_map.2 ⟨q, hq, rfl⟩)
              · exact .inr (List.mem_map.2 ⟨p, (List.mem_filter.1 hp).1, rfl⟩))
            have hkeys : Hid (∀ t, has D (kS t) = true → t ∈ xs.map (·.1) ∨ t ∈ ys.map (·.1)) := Lib.hid (fun t ht => by
              obtain ⟨kv, rfl, _⟩ := hD.out.tidy
              rw [has_eq, List.any_eq_true] at ht
              obtain ⟨p, hp, hpe⟩ := ht
              obtain ⟨u, e1, hu⟩ := hD.out.keys kv rfl p hp
              have := WideAt.sameKey_eq hpe
              rw [e1] at this
              rw [← kS_inj this]
              exact hu)
            obtain ⟨L, hL⟩ : ∃ L, chgL xs ys = L := ⟨_, rfl⟩
            rw [hL] at hL1 hL2 hL3 hLm hLk hfin
            clear hL
            go_loopw [15] (fun v y => ∃ (left : Lit → Bool) (cnt : Nat) (F : Int), y.ranges Try.prog 9 (plainElem Try.prog 3) w2.heap.size x.heap.size (j + i) D left cnt ∧ v = .int .i64 F ∧ Hid (F = done L left) ∧ Hid (∀ kl, left kl = true → has D kl = true) ∧ w2.grownBy y none) (fun _ y => y.rangeLeft w2.heap.size x.heap.size)
            case atStart => exact ⟨_, _, 0, hrg0, rfl, Lib.hid (done_start (fun p hp => hD.out.all p.1 (hLk.out p hp))).symm, Lib.hid (fun _ h => h), gb_trans hG hg5⟩
            case round =>
              obtain ⟨left, cnt, F, hrg, rfl, hF, hlh, hGy⟩ := hrel
              rename World => y
              have hFb := done_bound hL1.out hL2.out left
              rw [← hF.out] at hFb
              obtain ⟨hF0, hF1⟩ := hFb
              go_wp2_with (first | (at_next; refine wpList_next_si _ rfl _ rfl 9 3 .i64 keysLaw Try.underlying9 Try.underlying3 w2.heap.size x.heap.size _ D left cnt rfl hrg ?_ ?_))
              · intro _ hl0
                have hFe : F = sumPl L := by rw [hF.out, done_end hl0]
                have hend := hfin.out y hGy
                rw [← hFe] at hend
                have Hend := Lib.hid hend
                clear hFe hend hF
                go_wp2
                go_ret2
                exact Hend.out
              · intro t c w6 cnt1 hlt hat hrg1 hcl hg6 hs6 hen
                have hc : c = tot xs t - tot ys t := by
                  have h1 := hD.out.val t
                  rw [hat] at h1
                  injection h1 with h1
                  injection h1
                have hmem := hLm.out t (hkeys.out t (hlh.out _ hlt))
                rw [← hc] at hmem
                have hmv := hL1.out _ hmem
                simp only [mx_max] at hmv hmem
                have hstep := Lib.hid (done_step hL3.out hmem hlt)
                have Hlt := Lib.hid hlt
                have Hat := Lib.hid hat
                clear hmem hc hlt hat
                go_wp2
                go_roundw
                case rel => exact ⟨_, cnt1, F + max c (-c), hrg1, rfl, Lib.hid (by rw [hstep.out, hF.out]), Lib.hid (fun kl h => hlh.out kl (by simp only [Bool.and_eq_true] at h; exact h.1)), gb_two hGy hg6 hG.size⟩
                case measure => rw [hrg1.left_eq, hrg.left_eq]; omega
end Go.Proofs.Ytbhchlnbhimcpaa
