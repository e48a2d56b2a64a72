/- slices.Sort, Compact, BinarySearch of numbers, and bits.Len64, in the words of what is held. Conditions: none. -/
import Derived.Test.YtlodbajaoadhdaaSlSort
import Derived.Shelf.Slices.In.SortNone
import Derived.Shelf.Sort.Plain
import Derived.Shelf.Slices.CompactI
import Derived.Shelf.Slices.SearchI
import Derived.Shelf.Slices.Empties
import Derived.Shelf.Strconv.Itoa0
namespace Go.Fw
open Go Go.RowKit Go.Sort
set_option linter.unusedVariables false
set_option linter.unusedSimpArgs false
set_option maxHeartbeats 2000000
theorem putRow_id {α : Type} [Inhabited α] (enc : α → Value) (u : World) (g off : Nat) (d : Array α) : putRow enc u g off d = putRow id u g off (d.map enc) := by
  unfold putRow
  congr 1
  funext c
  unfold putCells
  congr 1
  funext k x
  simp only [Array.size_map]
  split
  · rename_i hk
    rw [getElem!_pos d _ (by omega), getElem!_pos (d.map _) _ (by simp; omega)]
    simp
  · rfl
theorem flat_ints : ∀ xs : List Int, ((xs.toArray.map (Value.int .i64)).toList) = flat xs
  | [] => by simp [flat]
  | x :: xs => by
    have := flat_ints xs
    simp only [List.toList_toArray, Array.toList_map] at this ⊢
    rw [List.map_cons, this]
    rfl
theorem holds_ints {w : World} {g : Nat} {xs : List Int} (h : ∀ F : Array Value, F.toList = flat xs → Holds id w g 0 F) : Holds (Value.int .i64) w g 0 xs.toArray := fun j hj => by
  have := h (xs.toArray.map (Value.int .i64)) (flat_ints xs) j (by simpa using hj)
  rw [getElem!_pos (xs.toArray.map (Value.int .i64)) j (by simpa using hj)] at this
  rw [getElem!_pos xs.toArray j hj]
  simpa using this
section
variable {P : Program} {ρ : Go.Shelf.Ren} {w0 : World} {I : Foot} {L : List HP}
theorem sortI_tr (Ly : Go.Proofs.Lays.n189 P ρ) {e : TypeId} {s : SV} {xs : List Int} (hn : xs.length ≤ 1000000000) :
    Tr P (ρ.f 189) #[.slice s.a s.n s.cap] (SL w0 I (OwnS e s xs :: L)) (fun _ : Unit => .tuple #[]) (fun _ => SL w0 I (OwnS e s (xs.mergeSort fun x y => decide (x ≤ y)) :: L)) := by
  intro w hw
  by_cases hx : xs = []
  · subst hx
    have hsn : s.n = 0 := hw.facts.1
    rw [hsn]
    refine (Go.Proofs.Any.slices_Sort_int_none Ly s.a s.cap w).mono ?_
    rintro e w' ⟨rfl, rfl⟩
    exact ⟨(), rfl, by rw [List.mergeSort_nil]; exact hw⟩
  · obtain ⟨g0, hs, hsn, hblk, hH⟩ := hw.row (List.length_pos_iff.2 hx)
    have key := Go.Proofs.Any.slices_Sort_int Ly g0 0 s.cap xs w (holds_ints hH) hblk (by omega)
    rw [hs, hsn]
    refine key.mono ?_
    rintro e w' ⟨rfl, n, os, rfl⟩
    refine ⟨(), rfl, ?_⟩
    rw [putRow_id]
    exact hw.reput hs (by rw [List.length_mergeSort]) n os (flat_ints _)
theorem compact_len {xs : List Int} : (Go.Lib.compact xs).length ≤ xs.length := by
  unfold Go.Lib.compact Go.Lib.compactUpTo
  rw [List.length_map]
  exact Nat.le_trans (List.length_filter_le _ _) (by simp)
theorem compactI_tr (Ly : Go.Proofs.Lays2.n20 P ρ) {e : TypeId} {s : SV} {xs : List Int} (hn : xs.length ≤ 1000000000) :
    Tr P (ρ.f 20) #[.slice s.a s.n s.cap] (SL w0 I (OwnS e s xs :: L)) (fun r : SV => .slice r.a r.n r.cap) (fun r => SL w0 I (OwnS e r (Go.Lib.compact xs) :: L)) := by
  intro w hw
  by_cases hx : xs = []
  · subst hx
    have hsn : s.n = 0 := hw.facts.1
    have h := Go.Proofs.Any.slices_Compact_int_empty Ly s.a s.cap w
    rw [← hsn] at h
    refine h.mono ?_
    rintro e w' ⟨rfl, rfl⟩
    exact ⟨s, rfl, hw⟩
  · obtain ⟨g0, hs, hsn, hblk, hH⟩ := hw.row (List.length_pos_iff.2 hx)
    have hcap : s.n ≤ s.cap := hw.facts.2
    have key := Go.Proofs.Any.slices_Compact_int Ly g0 0 s.cap xs w (holds_ints hH) (by omega) (by omega)
    rw [hs, hsn]
    refine key.mono ?_
    rintro e w' ⟨rfl, q, rfl⟩
    have hcl := compact_len (xs := xs)
    have h2 := hw.reput (ys := Go.Lib.compact xs ++ List.replicate (xs.length - (Go.Lib.compact xs).length) 0) hs (by rw [List.length_append, List.length_replicate]; omega) q #[] (flat_ints _)
    rw [← putRow_id] at h2
    have e0 : ∀ u : World, grow u #[] = u := fun u => by simp [grow]
    rw [e0] at h2
    have h3 := (Ent.ownCut (sz := 1) ((Go.Lib.compact xs).length : Int) (by rw [List.length_append, List.length_replicate]; omega)).sl h2
    rw [SV.cut0 s 1 _ (by omega)] at h3
    simp only [Int.toNat_natCast, List.take_left'] at h3
    refine ⟨⟨some ⟨g0, 0, none⟩, (Go.Lib.compact xs).length, s.cap⟩, rfl, ?_⟩
    rw [hs] at h3
    exact h3
theorem searchI_tr (Ly : Go.Proofs.Lays2.n25 P ρ) {s : SV} {xs : List Int} {x : Int} [hr : RdS I L s Int inferInstance xs] (hs : xs.Pairwise (· ≤ ·)) (hn : xs.length ≤ 1000000000) :
    TrP P (ρ.f 25) #[.slice s.a s.n s.cap, .int .i64 x] (SL w0 I L) (.tuple #[.int .i64 (xs.countP (· < x) : Nat), .bool (decide (x ∈ xs))]) := by
  intro w hw
  have h := hr.out w0 w hw
  rcases h.plain with h0 | ⟨b, o, ha⟩
  · have hx : xs = [] := List.eq_nil_of_length_eq_zero (by have := h.len; omega)
    subst hx
    rw [h0]
    refine (Go.Proofs.Any.slices_BinarySearch_int_empty Ly s.a s.cap x w).mono ?_
    rintro e w' ⟨rfl, rfl⟩
    exact ⟨by simp, w'.drawn, Nat.le_refl _, rfl⟩
  · have hl := h.len
    have key := Go.Proofs.Any.slices_BinarySearch_int Ly b o s.n s.cap xs x w (by omega) (by omega) (fun j hj => by
      have hc := h.cells j 0 (.int .i64 (xs.getD j 0)) hj rfl
      simp only [eAddr, ha, Option.getD_some] at hc
      have e1 : Enc.sz Int = 1 := rfl
      rw [e1] at hc
      simpa using hc) (by rw [List.take_of_length_le (by omega)]; exact hs)
    rw [ha]
    refine key.mono ?_
    rintro e w' ⟨rfl, q, rfl⟩
    refine ⟨?_, w.drawn + q, Nat.le_add_right _ _, rfl⟩
    have e : xs.contains x = decide (x ∈ xs) := Bool.eq_iff_iff.2 (by simp)
    rw [List.take_of_length_le (by omega), e]
theorem len64_tr (Ly : Go.Proofs.Lays.n129 P ρ) {x : Int} (h : 0 ≤ x ∧ x ≤ 18446744073709551615) : TrP P (ρ.f 129) #[.int .u64 x] (SL w0 I L) (.int .i64 (Go.Lib.bitLen x.toNat : Nat)) := by
  intro w hw
  refine (Go.Proofs.Any.bits_Len64 Ly x w h.1 h.2).mono ?_
  rintro e w' ⟨rfl, rfl⟩
  exact ⟨rfl, w'.drawn, Nat.le_refl _, rfl⟩
end
end Go.Fw
