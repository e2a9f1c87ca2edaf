/-
  append of all of a slice to an empty one that has no room, over any program: nothing that was there changes.
-/
import Derived.Test.YtdhkhlemdlibfaaAppAll
namespace Go.Proofs.Ytdhkhlemdlibfaa
open Go.RowKit
set_option linter.unusedVariables false

section
variable {P : Program} {t e : TypeId} {size bytes : Nat} {z : Value} {w : World}
theorem run_appFresh (E : Elem P t e size bytes z) (ty : TypeId) {L lo2 m c0 g : Nat} {us : List Value} {A : Option Addr} (hB : Blk w g e #[]) (hg : L ≤ g) (hs : Sl w lo2 size A m c0 us)
    (hone : ∀ u ∈ us, u.oneCell' = true) (hmax : m ≤ 9223372036854775807) (hn : m * bytes ≤ 140737488355328) (hlo : L ≤ w.heap.size) :
    ∃ B c w', (Builtin.append_ #[t, t] ty #[.slice (some ⟨g, 0, none⟩) 0 0, .slice A m c0]).run P w = .ok (.slice B m c) w' ∧ w'.ownsRow L e size (.slice B m c) m us ∧ w.grownBy w' none := by
  obtain ⟨i, hi, hz, hsz, hb⟩ := E.hi
  have hown : w.ownsRow L e size (.slice (some ⟨g, 0, none⟩) 0 0) 0 [] := ⟨by simp, .inr ⟨g, 0, #[], rfl, hg, hB, Nat.le_refl _, Nat.zero_le _, by simp, by simp⟩⟩
  by_cases hm : m = 0
  · subst hm
    have hu : us = [] := List.eq_nil_of_length_eq_zero (by have := hs.2.2.1; omega)
    subst hu
    refine ⟨some ⟨g, 0, none⟩, 0, w, ?_, hown, gb_refl _ _⟩
    cases A with
    | none => exact run_app_none (P := P) L t ty e i size c0 E.ht hi _ 0 [] hown
    | some a => simp [Builtin.append_, run_underlying E.ht, sizeOf, typeInfo, hi, Builtin.lenOf, Builtin.firstCells, loadCells, loadCellsFrom, storeCells]
  · obtain ⟨b, off, rfl, _, _, hc⟩ := hs.2.2.2 (by omega)
    have hl : us.length = m * i.size := by have := hs.2.2.1; rw [hsz]; exact this
    have hcs : ∀ j u, us[j]? = some u → w.cell? ((⟨b, off, none⟩ : Addr).add j) = some u := fun j u hu => by rw [add_off]; exact hc j u hu
    obtain ⟨v', w', hr, h2, h3, h4, h5⟩ := run_append_own_at (P := P) w L t ty e i z size bytes E.ht hi hz hsz hb E.hzs E.hsz _ 0 [] hown ⟨b, off, none⟩ m c0 us (by rw [← hsz]; exact hl) hcs hone (by unfold maxLen; omega) (by simpa using hn) hlo
    have hr2 := run_append_grow (P := P) w t ty e i z E.ht hi hz ⟨g, 0, none⟩ 0 0 [] (by simp) (by simp) ⟨b, off, none⟩ m c0 us hl hcs (by omega) (by omega) (growslice_fits (by omega) (by rw [hb]; simpa using hn))
    rw [hr2] at hr
    injection hr with h6 h7
    subst h6 h7
    rw [List.nil_append] at h2
    rw [Nat.zero_add] at h2 hr2
    exact ⟨_, _, _, hr2, h2, gb_alloc (gb_drew (gb_refl _ _)) _⟩
end
end Go.Proofs.Ytdhkhlemdlibfaa
