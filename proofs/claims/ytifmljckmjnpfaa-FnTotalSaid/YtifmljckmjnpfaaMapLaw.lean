/-
  Maps from texts to integers, as data: which texts, and what stands at each; their texts in order.
-/
import Derived.Test.YtifmljckmjnpfaaPilesLaw
import Derived.Maps.Own
import Derived.Maps.OwnOps
import Derived.Maps.Views
import Derived.WideShapes
import Derived.Sort.KeysCollected
namespace Go.Proofs.Ytifmljckmjnpfaa
open Go.RowKit Go.Maps
set_option linter.unusedVariables false

def kS (t : ByteArray) : Lit := .string t.data.toList
theorem kS_inj {t u : ByteArray} (h : kS t = kS u) : t = u := by
  injection h with h
  exact ByteArray.ext (Array.toList_inj.1 h)
theorem kS_key (t : ByteArray) : WideAt.IsKeyLit (kS t) := trivial
/-- D is a map whose texts are those of ts; f tells what stands at each. -/
structure MapOf (D : DataW Unit) (ts : ByteArray → Prop) (f : ByteArray → Int) : Prop where
  tidy : Tidy D
  keys : ∀ kv, D = .map kv → ∀ p ∈ kv, ∃ t, p.1 = kS t ∧ ts t
  all : ∀ t, ts t → has D (kS t) = true
  val : ∀ t, D.atKey (kS t) (.lit (.int .i64 0)) = .lit (.int .i64 (f t))
theorem MapOf.start : MapOf (.map []) (fun _ => False) (fun _ => 0) :=
  ⟨tidy_empty, fun kv e p hp => (by injection e with e; subst e; cases hp), fun t h => h.elim, fun t => rfl⟩
theorem MapOf.congr {D : DataW Unit} {ts ts' : ByteArray → Prop} {f f' : ByteArray → Int} (h : MapOf D ts f) (ht : ∀ t, ts t ↔ ts' t) (hf : ∀ t, f t = f' t) : MapOf D ts' f' :=
  ⟨h.tidy, fun kv e p hp => by obtain ⟨t, e1, h1⟩ := h.keys kv e p hp; exact ⟨t, e1, (ht t).1 h1⟩, fun t h1 => h.all t ((ht t).2 h1), fun t => by rw [h.val t, hf t]⟩
theorem MapOf.put {D : DataW Unit} {ts : ByteArray → Prop} {f : ByteArray → Int} (h : MapOf D ts f) (t : ByteArray) (n : Int) : MapOf (D.put (kS t) (.lit (.int .i64 n))) (fun u => u = t ∨ ts u) (fun u => if u = t then n else f u) := by
  obtain ⟨kv, rfl, hp⟩ := h.tidy
  refine ⟨h.tidy.put (kS_key t) _, fun kv' e p hm => ?_, fun u hu => ?_, fun u => ?_⟩
  · injection e with e
    subst e
    rw [(WideShapes.insert_perm _ _).mem_iff] at hm
    rcases List.mem_cons.1 hm with rfl | hm
    · exact ⟨t, rfl, .inl rfl⟩
    · obtain ⟨u, e1, h1⟩ := h.keys kv rfl p ((List.mem_filter.1 hm).1)
      exact ⟨u, e1, .inr h1⟩
  · by_cases hut : u = t
    · subst hut
      exact has_put_same ⟨kv, rfl⟩ (kS_key u) _
    · rw [has_put_other (fun e => hut (kS_inj e))]
      rcases hu with hu | hu
      · exact absurd hu hut
      · exact h.all u hu
  · by_cases hut : u = t
    · subst hut
      rw [if_pos rfl]
      exact atKey_put_same ⟨kv, rfl⟩ (kS_key u) _ _
    · rw [if_neg hut, atKey_put_other (fun e => hut (kS_inj e))]
      exact h.val u
/-- The texts of a map in order. -/
def inOrder (ss : List (List UInt8)) : List ByteArray := (ss.mergeSort (fun x y => decide (x ≤ y))).map fun l => ⟨l.toArray⟩
theorem inOrder_len (ss : List (List UInt8)) : (inOrder ss).length = ss.length := by simp [inOrder]
theorem toList_mk (l : List UInt8) : (⟨l.toArray⟩ : ByteArray).toList = l := by rw [ByteArray.toList_eq]
theorem MapOf.order {D : DataW Unit} {ts : ByteArray → Prop} {f : ByteArray → Int} (h : MapOf D ts f) {ss : List (List UInt8)} (hs : ss.Perm (Go.strKeys D)) :
    (inOrder ss).Pairwise (fun a b => sLt a b = true) ∧ ∀ t, t ∈ inOrder ss ↔ ts t := by
  obtain ⟨kv, rfl, hp⟩ := h.tidy
  have hk := h.keys kv rfl
  have hmem : ∀ l, l ∈ Go.strKeys (DataW.map kv) ↔ ∃ t : ByteArray, ts t ∧ l = t.data.toList := by
    intro l
    show l ∈ kv.map (fun p => Go.strOf p.1) ↔ _
    rw [List.mem_map]
    constructor
    · rintro ⟨p, hp, rfl⟩
      obtain ⟨t, e, ht⟩ := hk p hp
      exact ⟨t, ht, by rw [e]; rfl⟩
    · rintro ⟨t, ht, rfl⟩
      have := h.all t ht
      rw [has_eq, List.any_eq_true] at this
      obtain ⟨p, hp, hpe⟩ := this
      exact ⟨p, hp, by rw [WideAt.sameKey_eq hpe]; rfl⟩
  have hnd : (Go.strKeys (DataW.map kv)).Nodup := by
    show (kv.map (fun p => Go.strOf p.1)).Nodup
    unfold List.Nodup
    rw [List.pairwise_map]
    refine hp.imp_of_mem (fun {a b} ha hb hne e => hne ?_)
    obtain ⟨t, e1, _⟩ := hk a ha
    obtain ⟨u, e2, _⟩ := hk b hb
    rw [e1, e2] at e ⊢
    exact congrArg Lit.string e
  have hperm : (ss.mergeSort (fun x y => decide (x ≤ y))).Perm (Go.strKeys (DataW.map kv)) := (List.mergeSort_perm _ _).trans hs
  have hsorted : (ss.mergeSort (fun x y => decide (x ≤ y))).Pairwise (fun x y => x ≤ y) := by
    have := List.pairwise_mergeSort (le := fun (x y : List UInt8) => decide (x ≤ y)) (fun a b c h1 h2 => by simp at *; exact List.le_trans h1 h2) (fun a b => by simp; exact List.le_total a b) ss
    exact this.imp (fun h => by simpa using h)
  have hnd2 : (ss.mergeSort (fun x y => decide (x ≤ y))).Pairwise (fun x y => x ≠ y) := (hperm.nodup_iff.2 hnd)
  constructor
  · unfold inOrder
    rw [List.pairwise_map]
    refine (hsorted.and hnd2).imp (fun {x y} h => ?_)
    rw [sLt_iff, toList_mk, toList_mk]
    rcases Decidable.em (x < y) with h1 | h1
    · exact h1
    · exact absurd (List.le_antisymm h.1 (List.not_lt.1 h1)) h.2
  · intro t
    unfold inOrder
    rw [List.mem_map]
    constructor
    · rintro ⟨l, hl, rfl⟩
      obtain ⟨u, hu, rfl⟩ := (hmem l).1 (hperm.mem_iff.1 hl)
      have : (⟨u.data.toList.toArray⟩ : ByteArray) = u := by cases u; rfl
      rw [this]
      exact hu
    · intro ht
      exact ⟨t.data.toList, hperm.mem_iff.2 ((hmem _).2 ⟨t, ht, rfl⟩), by cases t; rfl⟩
/-- The texts in order, each with what stands at it: the piles that many piles come to. -/
theorem MapOf.canon {D : DataW Unit} {es : List Pl} (h : MapOf D (fun t => t ∈ es.map (·.1)) (tot es)) (hs : Small es) {ss : List (List UInt8)} (hp : ss.Perm (Go.strKeys D)) :
    (inOrder ss).map (fun t => (t, tot es t)) = canon es := by
  obtain ⟨h1, h2⟩ := h.order hp
  refine canon_unique hs ?_ (fun t => ?_) (fun p hp' => ?_)
  · unfold Asc
    rw [List.pairwise_map]
    exact h1
  · rw [List.map_map]
    show t ∈ (inOrder ss).map (fun t => t) ↔ _
    rw [List.map_id']
    exact h2 t
  · obtain ⟨t, _, rfl⟩ := List.mem_map.1 hp'
    rfl
end Go.Proofs.Ytifmljckmjnpfaa
