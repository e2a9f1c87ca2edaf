/-
  The walk of the law FnScriptWhat.
-/
import Derived.Test.YtboobimpoddacaaGreatDoorPackC
import Derived.Test.YtboobimpoddacaaGreatDoorScrLast
import Derived.Test.YtboobimpoddacaaGreatDoorPackA
import Derived.Test.YtboobimpoddacaaGreatDoorDrawScr
namespace Go.Proofs.YtboobimpoddacaaGreatDoor.lawFnScriptWhat
open Go.RowKit
set_option linter.unusedVariables false

attribute [local go_sem] flowAct flowOp_def flowUpon
set_option maxHeartbeats 4000000 in
set_option maxRecDepth 100000 in
theorem walk (a0 : Option Addr) (len0 cap0 : Nat) (w : World) (hE : Env w) (c0 : CodeArg w a0 len0 cap0) :
    Calls Tryz.prog 5 #[.slice a0 len0 cap0] w fun e w' => e = .returned (.bool true) ∧ Below w.heap.size w w' := by
  by_cases h0 : 1048576 < len0
  · go_enter Tryz.func5, Tryz.ntmps5
    go_wp2
    go_ret
    exact ⟨rfl, Below.refl _ _⟩
  go_enter Tryz.func5, Tryz.ntmps5
  go_wp2_with fail
  refine (c_DrawExecute _ _ _ _ c0).mono ?_
  rintro e w1 ⟨t, ht, rfl, hg1⟩
  have HE1 := Lib.hid (hE.grown hg1)
  have k1 := Lib.hid (fun x hx => c_impl_Execute t x (by omega) hx)
  have k2 := Lib.hid (fun x => c_spec_Execute t x (by omega))
  obtain ⟨x, b, hxb', hx, hb⟩ := whole_rest t
  have hxb := hxb'.symm
  clear hxb'
  have hcut := Lib.hid (fun u => c_completeLines x b t u hxb hx hb (by omega))
  have hsx : x.size ≤ t.size := by rw [← hxb, ByteArray.size_append]; omega
  have hsz4 := hsx
  have k3 := Lib.hid (fun u hu => c_impl_Execute x u (by omega) hu)
  obtain ⟨Z, hZ⟩ : ∃ Z, x ++ (⟨#[122, 122, 122, 10]⟩ : ByteArray) = Z := ⟨_, rfl⟩
  have hZs : Z.size = x.size + 4 := by rw [← hZ, ByteArray.size_append]; rfl
  have k4 := Lib.hid (fun u hu => c_impl_Execute Z u (by omega) hu)
  obtain ⟨u, htl, hu⟩ := tail_line (runLines (linesOf x)).1
  have hmore : Hid (Z.size ≤ 400 → exec Z = (runLines (linesOf x)).2 ++ tWhat ++ tailText (runLines (linesOf x)).1) := Lib.hid (fun h => by
    have e : (⟨#[122, 122, 122, 10]⟩ : ByteArray) = tZzz ++ tNl := rfl
    have h1 := exec_more (x := x) (b := tZzz) hx (by decide) (by rw [← e, hZ]; exact h)
    rw [← e, hZ, line_zzz] at h1
    rw [h1])
  have hshort := Lib.hid (fun h => exec_short (t := x) h)
  have hran := Lib.hid (fun h => ran_all (linesOf_size (t := x) h))
  have hZe0 := hZ
  clear hxb hx hb hZ
  obtain ⟨o, ho⟩ : ∃ o, (runLines (linesOf x)).2 = o := ⟨_, rfl⟩
  obtain ⟨tl, htle⟩ : ∃ tl, tailText (runLines (linesOf x)).1 = tl := ⟨_, rfl⟩
  rw [htle] at htl hshort hmore
  have hran : Hid (x.size ≤ 400 → Whole o ∧ o.size ≤ 3000000 ∧ tl.size ≤ 100) := Lib.hid (fun h => by
    have hr := hran.out h
    have h1 := tail_size hr.ok
    have h2 := hr.nl
    have h3 := hr.size
    have h4 := linesOf_len x
    have h5 := cut_len 10 x
    rw [htle] at h1
    rw [ho] at h2 h3
    exact ⟨h2, by omega, h1⟩)
  rw [ho] at hshort hmore
  clear ho htle
  obtain ⟨X, hX⟩ : ∃ X, exec t = X := ⟨_, rfl⟩
  rw [hX] at k1 k2
  clear hX c0
  go_wp2_with fail
  refine (k1.out _ HE1.out).mono ?_
  rintro e w2 ⟨rfl, hg2⟩
  have HE2 := Lib.hid (HE1.out.grown hg2)
  have hG2 := gb_trans hg1 hg2
  go_wp2_with fail
  refine (k2.out _).mono ?_
  rintro e w3 ⟨rfl, hg3⟩
  have HE3 := Lib.hid (HE2.out.grown hg3)
  have hG3 := gb_trans hG2 hg3
  clear k1 k2 hg1 hg2 hg3 hG2
  have hXX : (X.toList != X.toList) = false := by simp
  by_cases h4 : 400 < t.size + 4
  · have h4' : (400 : Int) < (t.size : Int) + 4 := by omega
    have w4 : IntKind.i64.wrap ((t.size : Int) + 4) = (t.size : Int) + 4 := IntWalk.i64_in _ (by omega)
    go_wp2
    go_ret
    exact ⟨ret_bool (by first | rfl | simp), gb_below hG3⟩
  have h4' : ¬ (400 : Int) < (t.size : Int) + 4 := by omega
  have w4 : IntKind.i64.wrap ((t.size : Int) + 4) = (t.size : Int) + 4 := IntWalk.i64_in _ (by omega)
  have hZ400 : Z.size ≤ 400 := by omega
  obtain ⟨hwo, hos, htls⟩ := hran.out (by omega)
  have hy := hshort.out (by omega)
  have hm := hmore.out hZ400
  obtain ⟨Y, hY⟩ : ∃ Y, exec x = Y := ⟨_, rfl⟩
  obtain ⟨V, hV⟩ : ∃ V, exec Z = V := ⟨_, rfl⟩
  rw [hY] at hy k3
  rw [hV] at hm k4
  have hYs : Y.size = o.size + tl.size := by rw [hy, ByteArray.size_append]
  have hlast := Lib.hid (fun q => c_lastLine o tl u Y q hy.symm hwo htl hu (by omega))
  have hhead : Hid (Y.extract 0 o.size = o) := Lib.hid (cut_head hy.symm)
  obtain ⟨T1, hT1⟩ : ∃ T, o ++ tWhat = T := ⟨_, rfl⟩
  obtain ⟨T2, hT2⟩ : ∃ T, T1 ++ tl = T := ⟨_, rfl⟩
  have hVT : V = T2 := by rw [hm, ← hT2, ← hT1, ByteArray.append_assoc]
  have l1 : tWhat.size = 5 := rfl
  have y1 : T1.size = o.size + 5 := by rw [← hT1, ByteArray.size_append, l1]
  have y2 : T2.size = T1.size + tl.size := by rw [← hT2, ByteArray.size_append]
  have a1 := add_str _ _ _ hT1 (by omega)
  have a2 := add_str _ _ _ hT2 (by omega)
  unfold tWhat at a1
  clear hT1 hT2 l1
  subst hVT
  have hZe := Lib.hid hZe0
  have a3 := add_str _ _ _ hZe.out (by omega)
  have hsub : IntKind.i64.wrap ((Y.size : Int) - (tl.size : Int)) = (o.size : Int) := by rw [IntWalk.i64_in _ (by omega)]; omega
  have hoY : (o.size : Int) ≤ (Y.size : Int) := by omega
  have hoY' : o.size ≤ Y.size := by omega
  have ho0 : (0 : Int) ≤ (o.size : Int) := by omega
  clear hy hm hY hV hmore hshort hran hwo htl hu hYs hZs hZe0
  go_wp2_with fail
  refine (hcut.out _).mono ?_
  rintro e w4 ⟨rfl, rfl⟩
  go_wp2_with fail
  refine (k3.out _ HE3.out).mono ?_
  rintro e w4 ⟨rfl, hg4⟩
  have HE4 := Lib.hid (HE3.out.grown hg4)
  have hG4 := gb_trans hG3 hg4
  go_wp2_with fail
  refine (hlast.out _).mono ?_
  rintro e w5 ⟨rfl, rfl⟩
  clear hlast k3 hcut
  go_wp2_with fail
  refine wp_known w4 [.string x, .string Z, .string V, .string Y, .string Y, .int .i64 (Y.size : Int), .string tl, .int .i64 (tl.size : Int), .int .i64 (o.size : Int), .string o, .string T1, .string tl, .string V, .bool true, .bool true] (gb_refl _ _) (by kernel_rfl) (by kernel_rfl) ?_ ?_
  · refine ⟨?_, ?_, ?_, ?_, ?_, ?_, ?_, ?_, ?_, ?_, ?_, ?_, ?_, ?_, ?_, trivial⟩
    all_goals
      intro q v y hn hC hp
      simp [flowPreds, Region.binds, fKnown] at hp
      go_simp
    all_goals try exact ⟨gb_refl _ _, rfl⟩
    all_goals try exact ⟨gb_refl _ _, by rw [hhead.out]; rfl⟩
    · refine (k4.out _ (HE4.out.grown hC)).mono ?_
      rintro e y1 ⟨rfl, hg⟩
      exact ⟨_, rfl, hg, rfl⟩
  · intro v y hC hp
    have eL : v 14 = .bool true := hp 14 (by decide)
    clear hp
    go_simp
    go_wp2
    go_ret
    exact ⟨rfl, gb_below (gb_trans hG4 hC)⟩
end Go.Proofs.YtboobimpoddacaaGreatDoor.lawFnScriptWhat
