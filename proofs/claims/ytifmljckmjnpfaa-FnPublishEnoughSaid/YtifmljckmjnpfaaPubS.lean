/-
  PrecinctsPublish of the reference.
-/
import Derived.Test.YtifmljckmjnpfaaPubI
import Derived.Test.YtifmljckmjnpfaaPctGroupT
namespace Go.Proofs.Ytifmljckmjnpfaa
open Go.RowKit
set_option linter.unusedVariables false

def pubFacts (L : Nat) (outv ls seg : Value) (p1 : Value) (a b id : Int) (N : Nat) (es : List Pl) : Nat → Value → World → Prop
  | 0 => fun v _ => v = outv
  | 1 => fun v _ => v = ls
  | 2 => fun v _ => v = .int .i64 a
  | 3 => fun v _ => v = p1
  | 4 => fun v _ => v = p1
  | 5 => fun v _ => v = .int .i64 id
  | 6 => fun v _ => v = ls
  | 7 => fun v _ => v = .int .i64 a
  | 8 => fun v _ => v = .int .i64 b
  | 9 => fun v _ => v = .int .i64 (b + 1)
  | 10 => fun v _ => v = seg
  | 11 => fun v x => ∃ B c, v = .slice B N c ∧ x.ownsRow L 66 2 (.slice B N c) N (cellsOf plCells es)
  | 12 => fun v x => ∃ B c, v = .agg #[.int .i64 id, .slice B N c] ∧ x.ownsRow L 66 2 (.slice B N c) N (cellsOf plCells es)
  | 13 => fun v x => ∃ B c g, v = .slice (some ⟨g, 0, none⟩) 1 1 ∧ Blk x g 35 #[.int .i64 id, .slice B N c] ∧ L ≤ g ∧ x.ownsRow L 66 2 (.slice B N c) N (cellsOf plCells es)
  | _ => fun _ _ => True
theorem pubFacts_kept (L : Nat) (outv ls seg p1 : Value) (a b id : Int) (N : Nat) (es : List Pl) (i : Nat) (v : Value) {x y : World} (hg : x.grownBy y none) (h : pubFacts L outv ls seg p1 a b id N es i v x) : pubFacts L outv ls seg p1 a b id N es i v y := by
  unfold pubFacts at *
  split at h
  all_goals first
    | exact h
    | (obtain ⟨B, c, e, ho⟩ := h; exact ⟨B, c, e, own_below ho hg⟩)
    | (obtain ⟨B, c, g, e, hB, hl, ho⟩ := h; exact ⟨B, c, g, e, hB.grown hg (by simp), hl, own_below ho hg⟩)

attribute [local go_sem] flowAct flowOp_def flowUpon
set_option maxHeartbeats 4000000 in
theorem c_spec_PrecinctsPublish (lo : Nat) (A : Option Addr) (n cap : Nat) (bs : List Pc) (least : Int) (w : World) (h : Pcts w lo A n cap bs) (hlo : lo ≤ w.heap.size) (hn : n ≤ 1100000) (hp : ∀ b ∈ bs, b.2.length ≤ 1100000) (hs : ∀ b ∈ bs, ∀ p ∈ b.2, p.1.size ≤ 2000000) :
    Calls Try.prog 41 #[.slice A n cap, .int .i64 least] w (PctsOkRes (pubRes bs least) (pubOK bs least) w) := by
  have hlc := h.le
  have hcm := h.max
  have hxl := Lib.hid h.len
  have Hs := Lib.hid hs
  have Hp := Lib.hid hp
  clear hs hp
  obtain ⟨V, hV⟩ : ∃ V, pctsOK bs = V := ⟨_, rfl⟩
  have HV := Lib.hid hV
  clear hV
  obtain ⟨Y, hY⟩ : ∃ Y, inB least 1 99 = Y := ⟨_, rfl⟩
  have HY := Lib.hid hY
  clear hY
  have hgo : Hid (groupOK bs least = (V && Y)) := Lib.hid (by rw [groupOK, HV.out, HY.out])
  have hfin : Hid ((V && Y) = false → ∀ w1 : World, w.grownBy w1 none → PctsOkRes (pubRes bs least) (pubOK bs least) w (.returned (.tuple #[.slice (some ⟨w1.heap.size, 0, none⟩) 0 0, .bool false])) (w1.alloc (.cells #[] 35))) := Lib.hid (fun e w1 hg => by
    have hbad : pubOK bs least = false := by unfold pubOK; rw [hgo.out, e]; rfl
    have hres : pubRes bs least = [] := by unfold pubRes; rw [hbad]; rfl
    exact ⟨_, 0, [], by rw [hbad, hres]; rfl, gb_alloc hg _, by rw [hres]; exact (OwnRecs.empty _ _ _ w1 w.heap.size hg.size).wide (Nat.le_refl _) (by simp)⟩)
  go_enter Try.func41, Try.ntmps41
  go_wp2_with fail
  refine (c_spec_PrecinctsValid lo A n cap bs _ h Hs.out).mono ?_
  rintro e w1 ⟨rfl, hg1⟩
  rw [HV.out]
  cases V with
  | false =>
    go_wp2
    go_ret2
    exact hfin.out rfl _ hg1
  | true =>
    go_wp2_with fail
    refine (c_l6In _ _ _ _).mono ?_
    rintro e w2 ⟨rfl, rfl⟩
    rw [HY.out]
    cases Y with
    | false =>
      go_wp2
      go_ret2
      exact hfin.out rfl _ hg1
    | true =>
      clear hfin
      have hl12 : 1 ≤ least ∧ least ≤ 99 := by simpa [inB] using HY.out
      have hn6 : n ≤ 6 := by have := pctsOK_len HV.out; have := hxl.out; omega
      have hgl : (giRes bs least).length ≤ n := by
        have h0 := groups_len_le (iWt bs) least (upTo bs.length)
        have h1 : (upTo bs.length).length = n := by rw [upTo_len, hxl.out]
        rw [h1] at h0
        exact h0.1
      have hgood := pubL_gi hgo.out
      have hval := pub_valid hgo.out
      have hok : pubOK bs least = pubAll (pGroups bs least) := by unfold pubOK; rw [hgo.out]; rfl
      obtain ⟨O, hO⟩ : ∃ O, pubAll (pGroups bs least) = O := ⟨_, rfl⟩
      rw [hO] at hval hok
      have Hval := Lib.hid hval
      have Hok := Lib.hid hok
      have hres : Hid (pubRes bs least = if O then pubL bs least else []) := Lib.hid (by unfold pubRes; rw [hok])
      have Hrun := Lib.hid (fun (k : Nat) (g : Row) (hg : (giRes bs least)[k]? = some g) => giRes_run hg)
      have hga := gb_alloc (gb_refl w1 none) (.cells #[] 35)
      have hra := OwnRecs.empty pcRec 66 35 w1 w1.heap.size (Nat.le_refl _)
      have Hra := Lib.hid hra
      have hG1 := gb_trans hg1 hga
      have hcall := Lib.hid (c_l41Groups lo A n cap bs least _ (Recs.keep0 h hG1) HV.out hl12.1 hl12.2)
      obtain ⟨w1', hw1'⟩ : ∃ w1', w1.alloc (.cells #[] 35) = w1' := ⟨_, rfl⟩
      have hz1' : w1'.heap.size = w1.heap.size + 1 := by rw [← hw1']; simp
      have hz11 := hg1.size
      rw [hw1'] at hcall hga Hra hG1
      have hpubsz : Hid (∀ b ∈ pubL bs least, ∀ p ∈ b.2, p.1.size ≤ 2000000) := Lib.hid (fun b hb => by
        rw [pubL] at hb
        obtain ⟨g, hg, rfl⟩ := List.mem_map.1 hb
        have hf := (pGroups_flat hgo.out).1
        exact canon_sizes (pctEs_sizes (fun x hx => Hs.out x (by rw [← hf]; exact List.mem_flatten.2 ⟨g, hg, hx⟩))))
      have Hgood := Lib.hid hgood
      obtain ⟨gs, hgs⟩ : ∃ gs, giRes bs least = gs := ⟨_, rfl⟩
      rw [hgs] at hcall Hgood hgl Hrun
      clear hgood hval hok hgs hl12 hO hgo hra
      go_wp2_with fail
      clear hw1'
      refine hcall.out.mono ?_
      rintro e w3 ⟨B, m, c, hsB, rfl, hg3, hT⟩
      have hI3 := hT.irows
      have hml : m ≤ 6 := by have h2 := hI3.len; omega
      have Hml := Lib.hid hI3.len
      have hlcT := hI3.le
      have hcmT := hI3.max
      have hG3 := gb_trans hG1 hg3
      have hr3 := Hra.out.keep hg3
      have hz3 := hg3.size
      have Hz1 := Lib.hid hz1'
      clear hT hcall Hra hga hG1 hg3 hz1'
      go_wp2
      go_loopw [6, 8] (fun v6 i wr => ∃ (k : Nat) (D : Option Addr) (d : Nat) (hs : List Hd), k ≤ m ∧ i = .int .i64 k ∧ v6 = .slice D k d ∧ w.grownBy wr none ∧ MidKeep w1'.heap.size w3 wr ∧ OwnRecs pcRec 66 35 wr w1.heap.size wr.heap.size D k d ((gs.take k).map fun g => pubG (g.map (pcAt bs))) hs ∧ Hid (∀ g, (Value.slice D k d).ownBlock = some g → g < w1'.heap.size ∨ w3.heap.size ≤ g)) (fun _ i _ => m - (intOf i).toNat)
      case atStart => exact ⟨0, _, 0, [], Nat.zero_le _, rfl, rfl, hG3, MidKeep.refl _ _, hr3.wide (Nat.le_refl _) (by have := Hz1.out; omega), Lib.hid (fun g e => by
        have e : some w1.heap.size = some g := e
        injection e with e
        have := Hz1.out
        left; omega)⟩
      case round =>
        obtain ⟨k, D, d, hs, hk, rfl, rfl, hG, hM, hrecs, hblk⟩ := hrel
        rename World => wr
        clear hr3
        by_cases hlt : k < m
        · have hk' : (k : Int) < (m : Int) := by omega
          have hk0 : (0 : Int) ≤ (k : Int) := by omega
          obtain ⟨bT, oT, g, A2, c2, rfl, hgk, hI2, hcell⟩ := IRows.at_ (hI3.mid hM) hlt
          obtain ⟨F, r1, r2, r3, r4⟩ := Hrun.out k g hgk.out
          rw [hxl.out] at r2
          have hlc2 := Sl.le hI2
          have hcm2 := Sl.max hI2
          obtain ⟨b2, o2, z0, rfl, hz0, hcz0⟩ := Ints.at_ (k := 0) hI2 r1
          obtain rfl : z0 = (F : Int) := by
            have h1 := hz0.out
            rw [r3 0 r1] at h1
            injection h1 with h1
            exact h1.symm
          obtain ⟨q, hq⟩ : ∃ q, g.length = q + 1 := ⟨g.length - 1, by omega⟩
          obtain ⟨b2', o2', z1, he, hz1, hcz1⟩ := Ints.at_ (k := q) hI2 (by omega)
          injection he with he
          injection he with he1 he2
          subst he1 he2
          obtain rfl : z1 = ((F + q : Nat) : Int) := by
            have h1 := hz1.out
            rw [r3 q (by omega)] at h1
            injection h1 with h1
            exact h1.symm
          obtain ⟨E, hE⟩ : ∃ E, F + q = E := ⟨_, rfl⟩
          rw [hE] at hcz1
          obtain ⟨J, hJ⟩ : ∃ J, g.length = J := ⟨_, rfl⟩
          rw [hJ] at hq r1 r2 r4 hI2 hcell hlc2
          have hPw := Recs.keep0 h hG
          obtain ⟨b, off, id, ps, A', c', rfl, hpF, hps, m0, m1⟩ := Pcts.at_ (k := F) hPw (by omega)
          have hFc : ¬ cap = F := by omega
          have hseg : Hid (Pcts wr lo (some ⟨b, off + F * 2, none⟩) J (cap - F) (g.map (pcAt bs))) := Lib.hid (by
            have := Recs.part hPw (i := F) (k := F + J) (by omega) (by omega)
            rw [if_neg hFc, show Option.map (fun x : Addr => x.add (F * (pcRec.own + 1))) (some ⟨b, off, none⟩) = some ⟨b, off + F * 2, none⟩ from congrArg some (add_off b off (F * 2)), show F + J - F = J from by omega, ← r4] at this
            exact this)
          have hhead : Hid ((g.map (pcAt bs)).headD (0, []) = (id, ps)) := Lib.hid (by
            have hq' := hpF.out
            have h1 : (g.map (pcAt bs))[0]? = some (id, ps) := by
              rw [r4, List.getElem?_take, if_pos (by omega), List.getElem?_drop, Nat.add_zero]
              exact hq'
            cases hgm : g.map (pcAt bs) with
            | nil => rw [hgm] at h1; simp at h1
            | cons y ys => rw [hgm] at h1; simpa using h1)
          have hmemg : Hid (∀ x ∈ g.map (pcAt bs), x ∈ bs) := Lib.hid (fun x hx => by
            rw [r4] at hx
            exact List.drop_subset _ _ (List.take_subset _ _ hx))
          obtain ⟨sg, hsg⟩ : ∃ sg, g.map (pcAt bs) = sg := ⟨_, rfl⟩
          have Hsg := Lib.hid hsg
          rw [hsg] at hseg hhead hmemg
          have hsub : IntKind.i64.wrap ((J : Int) - 1) = (q : Int) := by rw [IntWalk.i64_in _ (by omega)]; omega
          have hJ0 : (0 : Int) < (J : Int) := by omega
          have hqJ : (q : Int) < (J : Int) := by omega
          have hq0 : (0 : Int) ≤ (q : Int) := by omega
          have hF0 : (0 : Int) ≤ (F : Int) := by omega
          have hFn : (F : Int) < (n : Int) := by omega
          have hadd : IntKind.i64.wrap ((E : Int) + 1) = (E : Int) + 1 := IntWalk.i64_in _ (by omega)
          have hFE : (F : Int) ≤ (E : Int) + 1 := by omega
          have hEc : (E : Int) + 1 ≤ (cap : Int) := by omega
          have hE1 : ((E : Int) + 1).toNat = F + J := by omega
          have hFJ : F + J - F = J := by omega
          have hFJc : F + J ≤ cap := by omega
          have hJn : J ≤ 1100000 := by omega
          obtain ⟨N, hN⟩ : ∃ N, (canon (pctEs sg)).length = N := ⟨_, rfl⟩
          have HN := Lib.hid hN
          have Hgk := hgk
          rw [Nat.add_zero] at hcz0
          clear hz0 hz1 hsg hN hgk hPw hps hpF r3 r4 hI2 hE hq hJ
          go_wp2_with fail
          refine wp_known wr [.slice (some ⟨bT, oT, none⟩) m c, .int .i64 k, .pointer (some ⟨bT, oT + k, none⟩), .slice (some ⟨b2, o2, none⟩) J c2, .slice (some ⟨bT, oT, none⟩) m c, .int .i64 k, .pointer (some ⟨bT, oT + k, none⟩), .slice (some ⟨b2, o2, none⟩) J c2, .int .i64 J, .int .i64 q, .pointer (some ⟨b2, o2 + q, none⟩), .int .i64 E, .int .i64 E] (gb_refl _ _) (by kernel_rfl) (by kernel_rfl) ?_ ?_
          · refine ⟨?_, ?_, ?_, ?_, ?_, ?_, ?_, ?_, ?_, ?_, ?_, ?_, ?_, trivial⟩
            all_goals
              intro n u x hn hC hp
              simp [flowPreds, Region.binds, fKnown] at hp
              have n0 := gb_cell hC hcell (by simp)
              have n1 := gb_cell hC hcz1 (by simp)
              go_simp
            all_goals try exact ⟨gb_refl _ _, rfl⟩
          · intro u x hC hp'
            have e11 : u 11 = .int .i64 E := hp' 11 (by decide)
            have e12 : u 12 = .int .i64 E := hp' 12 (by decide)
            clear hp'
            have hGx := gb_trans hG hC
            have hM' : Hid (w1'.heap.size ≤ wr.heap.size ∧ w3.heap.size ≤ wr.heap.size) := Lib.hid ⟨Nat.le_trans hz3 hM.1, hM.1⟩
            have hMx := hM.gb hC
            have hrx := hrecs.keep hC
            have hsx : Hid (∀ y : World, x.grownBy y none → Pcts y lo (some ⟨b, off + F * 2, none⟩) J (cap - F) sg) := Lib.hid (fun y hy => Recs.keep0 (Recs.keep0 hseg.out hC) hy)
            have x0 := gb_cell hC m0 (by simp)
            have Hz := Lib.hid hG.size
            have Hzx := Lib.hid hC.size
            have hlox : lo ≤ x.heap.size := Nat.le_trans hlo hGx.size
            clear hrecs hM m0 m1 hcell hcz0 hcz1 hseg
            go_simp
            go_wp2_with fail
            refine wp_flow_tail [_, _, _, _, _, _, _, _, _, _, _, _, _, _] [_, _] rfl (by kernel_rfl) (by kernel_rfl) (by kernel_rfl) (PC x) PT (pubFacts x.heap.size (.slice D k d) (.slice (some ⟨b, off, none⟩) n cap) (.slice (some ⟨b, off + F * 2, none⟩) J (cap - F)) (.pointer (some ⟨b, off + F * 2, none⟩)) F E id N (canon (pctEs sg))) (gb_drew (gb_refl _ _)) (fun n x y h k => gb_trans k h) (fun n x y h _ i v => pubFacts_kept _ _ _ _ _ _ _ _ _ _ i v h) ?_ ?_
            · refine ⟨?_, ?_, ?_, ?_, ?_, ?_, ?_, ?_, ?_, ?_, ?_, ?_, ?_, ?_, trivial⟩
              all_goals
                intro nn u y hnn hCy hp
                have y0 := gb_cell hCy x0 (by simp)
              · go_simp
                exact ⟨gb_refl _ _, rfl⟩
              · go_simp
                exact ⟨gb_refl _ _, rfl⟩
              · go_simp
                exact ⟨gb_refl _ _, rfl⟩
              · have e1 : u 1 = .slice (some ⟨b, off, none⟩) n cap := hp 1 (by decide)
                have e2 : u 2 = .int .i64 F := hp 2 (by decide)
                go_simp
                exact ⟨gb_refl _ _, rfl⟩
              · have e3 : u 3 = .pointer (some ⟨b, off + F * 2, none⟩) := hp 3 (by decide)
                go_simp
                exact ⟨gb_refl _ _, rfl⟩
              · have e4 : u 4 = .pointer (some ⟨b, off + F * 2, none⟩) := hp 4 (by decide)
                go_simp
                exact ⟨gb_refl _ _, rfl⟩
              · go_simp
                exact ⟨gb_refl _ _, rfl⟩
              · go_simp
                exact ⟨gb_refl _ _, rfl⟩
              · go_simp
                exact ⟨gb_refl _ _, rfl⟩
              · have e8 : u 8 = .int .i64 E := hp 8 (by decide)
                go_simp
                exact ⟨gb_refl _ _, rfl⟩
              · have e6 : u 6 = .slice (some ⟨b, off, none⟩) n cap := hp 6 (by decide)
                have e7 : u 7 = .int .i64 F := hp 7 (by decide)
                have e9 : u 9 = .int .i64 ((E : Int) + 1) := hp 9 (by decide)
                go_simp
                exact ⟨gb_refl _ _, rfl⟩
              · have e10 : u 10 = .slice (some ⟨b, off + F * 2, none⟩) J (cap - F) := hp 10 (by decide)
                go_simp
                refine (c_l41Total lo _ J (cap - F) sg y (hsx.out y hCy) (Nat.le_trans hlox hCy.size) hJn (fun z hz => Hp.out z (hmemg.out z hz))).mono ?_
                rintro e z ⟨B3, c3, rfl, hgz, hoz⟩
                rw [HN.out] at hoz
                rw [HN.out]
                exact ⟨_, rfl, hgz, B3, c3, rfl, own_lo hoz hCy.size⟩
              · have e5 : u 5 = .int .i64 id := hp 5 (by decide)
                obtain ⟨B3, c3, e11', ho⟩ := (show ∃ B c, u 11 = .slice B N c ∧ y.ownsRow x.heap.size 66 2 (.slice B N c) N (cellsOf plCells (canon (pctEs sg))) from hp 11 (by decide))
                go_simp
                exact ⟨gb_refl _ _, B3, c3, rfl, ho⟩
              · obtain ⟨B3, c3, e12', ho⟩ := (show ∃ B c, u 12 = .agg #[.int .i64 id, .slice B N c] ∧ y.ownsRow x.heap.size 66 2 (.slice B N c) N (cellsOf plCells (canon (pctEs sg))) from hp 12 (by decide))
                go_simp
                exact ⟨gb_alloc (gb_refl _ _) _, B3, c3, _, rfl, Blk.new _ _ _, hCy.size, own_below ho (gb_alloc (gb_refl _ _) _)⟩
            · intro nn u y _ hCy hp
              have e0 : u 0 = .slice D k d := hp 0 (by decide)
              obtain ⟨B3, c3, gE, e13, hBE, hgE, ho⟩ := (show ∃ B c g, u 13 = .slice (some ⟨g, 0, none⟩) 1 1 ∧ Blk y g 35 #[.int .i64 id, .slice B N c] ∧ x.heap.size ≤ g ∧ y.ownsRow x.heap.size 66 2 (.slice B N c) N (cellsOf plCells (canon (pctEs sg))) from hp 13 (by decide))
              clear hp
              have hry := hrx.keep hCy
              have hGy := gb_trans hGx hCy
              have hMy := hMx.gb hCy
              have hzy : w1.heap.size ≤ y.heap.size := by have := Hz1.out; have := hM'.out; have := hCy.size; have := Hzx.out; omega
              have hzw := hCy.size
              go_simp
              go_wp2_with (at_builtin; refine wpList_appB pctE rfl _ _ rfl w1.heap.size k _ _ rfl hry.row gE [_, _] rfl hBE rfl (by simp [Value.oneCell']) (by omega) (by omega) hzy ?_; intro D' d' w5 hown5 hb5 hg5 hat5)
              have hxl2 : (pubG sg).2.length = N := HN.out
              have hpush := (hry.wide (Nat.le_refl _) Hzx.out).push (x := pubG sg) (d := (B3, c3)) (by
                show World.ownsRow _ _ _ _ (.slice B3 (pubG sg).2.length c3) (pubG sg).2.length (cellsOf plCells (canon (pctEs sg)))
                rw [hxl2]
                exact ho) (by have := hM'.out; have := Hzx.out; have := Hz1.out; omega) (by
                rw [show pcRec.cells (pubG sg, (B3, c3)) = [.int .i64 id, .slice B3 N c3] from by
                  show [Value.int .i64 (pubG sg).1, .slice B3 (pubG sg).2.length c3] = _
                  rw [hxl2, pubG, hhead.out]]
                exact hown5) hg5 hat5 hzw
              have hM5 := hMy.row hg5 hblk.out
              go_roundw
              case rel => exact ⟨k + 1, D', d', _, by omega, by go_num, rfl, gb_step hGy hg5 (fun z e => .inr (Nat.le_trans hz11 (hry.row.lt z e).1)), hM5, by rw [take_succ_of Hgk.out, List.map_append, List.map_singleton, Hsg.out]; exact hpush, Lib.hid (fun z e => by
                rcases hat5 with e1 | ⟨q', e1, hq'⟩
                · exact hblk.out z (e1.symm.trans e)
                · have e := e1.symm.trans e
                  injection e with e
                  have h1 := Hzx.out
                  have h2 := hM'.out
                  right; omega)⟩
              case measure => simp [intOf]; omega
        · obtain rfl : k = m := by omega
          have htk : gs.take k = gs := List.take_of_length_le (by rw [Hml.out]; exact Nat.le_refl _)
          rw [htk, ← Hgood.out] at hrecs
          have hpl : Hid ((pubL bs least).length = k) := Lib.hid (by rw [Hgood.out, List.length_map, Hml.out])
          clear htk
          go_wp2_with fail
          refine (c_spec_PrecinctsValid _ _ _ _ (pubL bs least) _ hrecs.recs hpubsz.out).mono ?_
          rintro e w5 ⟨rfl, hg5⟩
          rw [Hval.out]
          have hG5 := gb_trans hG hg5
          cases O with
          | false =>
            go_wp2
            go_ret2
            exact ⟨_, 0, [], by rw [Hok.out, hres.out]; rfl, gb_alloc hG5 _, by rw [hres.out]; exact (OwnRecs.empty _ _ _ w5 w.heap.size hG5.size).wide (Nat.le_refl _) (by simp)⟩
          | true =>
            have hr5 := hrecs.keep hg5
            have hrl : pubRes bs least = pubL bs least := by rw [hres.out]; simp
            have Hrl := Lib.hid hrl
            clear hrl
            go_wp2
            go_ret2
            exact ⟨D, d, hs, by rw [Hok.out, Hrl.out, hpl.out]; rfl, hG5, by rw [Hrl.out, hpl.out]; exact hr5.wide hz11 hg5.size⟩
end Go.Proofs.Ytifmljckmjnpfaa
