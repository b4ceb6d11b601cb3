/- The law's own example. Conditions: none. -/
import Derived.Test.YtnpdfmpjjomhcaaGreatBytes
import Derived.Test.YtnpdfmpjjomhcaaGreatMem
import Derived.Great.BuildSlice
set_option linter.unusedSimpArgs false
set_option linter.unusedVariables false
set_option linter.unnecessarySimpa false
namespace Go.Proofs.YtnpdfmpjjomhcaaGreat
open Go.RowKit

def ev1 : Ev := ⟨⟨⟨1, 1⟩, 2⟩, ⟨5, 0, 1⟩, 2, key0, ck0, []⟩
def ev2 : Ev := ⟨⟨⟨1, 1⟩, 2⟩, ⟨5, 0, 1⟩, 2, key0, ck0, [⟨⟨0, 1⟩, 9⟩]⟩
theorem ev1_no : evOk ev1 = false := by decide +kernel
theorem ev2_yes : evOk ev2 = true := by decide +kernel
theorem ev1_small : EvSmall ev1 := ⟨by decide, by decide, by decide, by decide, by decide⟩
theorem ev2_small : EvSmall ev2 := ⟨by decide, by decide, by decide, by decide, by decide⟩
theorem ev2_tiny : EvTiny ev2 := ⟨by decide, by decide, by decide, by decide⟩
theorem ev2_len : (evB ev2).length = 11 := by
  have hd : ∀ d, dotOk d = true → d.a.dev.toNat < 128 → d.a.inc.toNat < 128 → d.seq.toNat < 128 → (dotB d).length = 3 := fun d h h1 h2 h3 => by
    unfold dotB; rw [if_pos h, shortB_small _ h1, shortB_small _ h2, shortB_small _ h3]; rfl
  have hs : (stampB ev2.stamp).length = 3 := by
    unfold stampB; rw [if_pos (by decide), shortB_small _ (by decide), shortB_small _ (by decide), shortB_small _ (by decide)]; rfl
  have h1 := hd ev2.dot (by decide) (by decide) (by decide) (by decide)
  have h2 := hd ⟨⟨0, 1⟩, 9⟩ (by decide) (by decide) (by decide) (by decide)
  have h3 : (shortB ev2.over.length).length = 1 := by rw [shortB_small _ (by decide)]; rfl
  have h4 : evTail ev2 = [] := by unfold evTail; rw [if_neg (by decide)]
  have h5 : dotsB ev2.over = dotB ⟨⟨0, 1⟩, 9⟩ := by simp [dotsB, ev2]
  unfold evB evHead
  rw [h4, h5]
  simp only [List.length_append, List.length_singleton, List.length_nil]
  omega

abbrev over2 : List Dot := [⟨⟨0, 1⟩, 9⟩]
/-- what the walk needs of its first event -/
structure AwakeEv (e : Ev) : Prop where
  box : ∀ (w : World) (t : TypeId), (w.alloc (Obj.cells #[.int .i64 1, .int .i64 1, .int .i64 2, .int .i64 5, .int .i64 0, .int .i64 1, .int .i64 2, .string ⟨#[]⟩, .string ⟨#[]⟩, .string ⟨#[]⟩, .string ⟨#[]⟩, .bool false, .bool false, .bool false, .bool false, .int .i64 0, .int .i64 0, .int .i64 0, .slice none 0 0] t)).rangeAt w.heap.size 0 (evCells e none 0)
  slot : (evCells e none 0)[18]? = some (.slice none 0 0)
  no : ∀ W : World, Calls Tryz.prog 43 #[evVal e none 0] W fun x w' => x = .returned (.bool false) ∧ Below W.heap.size W w'
  yes : ∀ (A : Nat) (W : World), DotsIn W (some ⟨A, 0, none⟩) over2 → Calls Tryz.prog 43 #[evVal { e with over := over2 } (some ⟨A, 0, none⟩) 1] W fun x w' => x = .returned (.bool true) ∧ Below W.heap.size W w'
  bytes : ∀ (A : Nat) (W : World), DotsIn W (some ⟨A, 0, none⟩) over2 → A < W.heap.size → Calls Tryz.prog 12 #[evVal { e with over := over2 } (some ⟨A, 0, none⟩) 1] W fun x w' =>
    ∃ v, x = .returned (.tuple #[v, .int .i64 0]) ∧ w'.ownsRow W.heap.size 5 1 v 11 (byteVals (evB ev2)) ∧ Below W.heap.size W w'
theorem awakeEv : AwakeEv ev1 where
  box := fun w t => evCells_box ev1 none 0 w t
  slot := rfl
  no := fun W => by have h := eventRight_any ev1 none 0 W ev1_small (Or.inl rfl); rwa [ev1_no] at h
  yes := fun A W h => by have h2 := eventRight_any ev2 (some ⟨A, 0, none⟩) 1 W ev2_small h; rwa [ev2_yes] at h2
  bytes := fun A W h hA => by
    have hB := Bytes_yes ev2 (some ⟨A, 0, none⟩) 1 W ev2_small ev2_tiny h (fun _ _ e _ => by cases e; exact hA) ev2_yes
    refine hB.mono ?_
    rintro x w' ⟨v, rfl, ho, hb⟩
    rw [ev2_len] at ho
    exact ⟨v, rfl, ho, hb⟩
theorem range_over {w : World} {b : Nat} {e : Ev} {a a' : Option Addr} {cap cap' : Nat} (l : List Dot) (h : w.rangeAt b 0 (evCells e a cap)) : (w.setCell ⟨b, 18, none⟩ (.slice a' l.length cap')).rangeAt b 0 (evCells { e with over := l } a' cap') := by
  intro j v hv
  rw [Nat.zero_add]
  by_cases hj : j = 18
  · subst hj
    simp [evCells] at hv
    subst hv
    exact World.cell?_setCell_same _ _ _ (h 18 _ rfl)
  · rw [World.cell?_setCell_other _ _ _ _ (by simp [Ne.symm hj])]
    have h1 : (evCells e a cap)[j]? = some v := by
      rw [← hv]
      match j, hj with
      | 0, _ | 1, _ | 2, _ | 3, _ | 4, _ | 5, _ | 6, _ | 7, _ | 8, _ | 9, _ | 10, _ | 11, _ | 12, _ | 13, _ | 14, _ | 15, _ | 16, _ | 17, _ => rfl
      | j + 19, _ => rfl
    have := h j v h1
    rwa [Nat.zero_add] at this

set_option maxRecDepth 100000 in
set_option maxHeartbeats 2000000 in
theorem awake_any (w : World) : Calls Tryz.prog 11 #[] w fun x w' => x = .returned (.bool true) ∧ Below w.heap.size w w' := by
  obtain ⟨e, hev⟩ : ∃ e, AwakeEv e := ⟨ev1, awakeEv⟩
  have H1 := Lib.hid hev.no
  go_enter Tryz.func11, Tryz.ntmps11
  go_upto_region 2 with (first
    | (refine Great.wpList_buildTo rfl 34 _ rfl _ rfl #[.int .i64 1, .int .i64 1, .int .i64 2, .int .i64 5, .int .i64 0, .int .i64 1, .int .i64 2, .string ⟨#[]⟩, .string ⟨#[]⟩, .string ⟨#[]⟩, .string ⟨#[]⟩, .bool false, .bool false, .bool false, .bool false, .int .i64 0, .int .i64 0, .int .i64 0, .slice none 0 0] (by kernel_rfl) ?_)
    | (refine wpList_store_new 34 _ _ _ _ rfl rfl (by kernel_rfl) rfl (by kernel_rfl) ?_))
  refine wp_name (fun W hW => ?_)
  have hbt : Below w.heap.size w W := by rw [hW.out]; go_grown
  have hz : W.heap.size = w.heap.size + 1 := by rw [hW.out]; simp
  have hR : W.rangeAt w.heap.size 0 (evCells e none 0) := by rw [hW.out]; exact hev.box w _
  have hf : W.frozen? ⟨w.heap.size, 18, none⟩ = false := by rw [hW.out]; go_simp
  clear hW
  go_upto_region 3 with (first
    | ((with_reducible refine wpList_load_ev _ w.heap.size e none 0 hR ?_ rfl ?_); exact rfl)
    | (go_at_call 43; (with_reducible refine (H1.out _).mono ?_); rintro x w1 ⟨rfl, hb⟩; replace hR := rangeAt_kept hR hb; replace hbt := below2 hbt hb; have hz1 := hb.size; replace hf : w1.frozen? ⟨w.heap.size, 18, none⟩ = false := (hb.frozen (p := ⟨w.heap.size, 18, none⟩) (by simp only; omega)).trans hf))
  have h18 : w1.cell? ⟨w.heap.size, 18, none⟩ = some (.slice none 0 0) := by have := hR 18 _ hev.slot; rwa [Nat.zero_add] at this
  have hfa : ∀ o, (w1.alloc o).frozen? ⟨w.heap.size, 18, none⟩ = false := fun o => by have hbo := (Below.refl w1.heap.size w1).alloc (Nat.le_refl _) o; exact (hbo.frozen (p := ⟨w.heap.size, 18, none⟩) (by simp only; omega)).trans hf
  have hca : ∀ o, (w1.alloc o).cell? ⟨w.heap.size, 18, none⟩ = some (.slice none 0 0) := fun o => kept ((Below.refl w1.heap.size w1).alloc (Nat.le_refl _) o) h18
  clear hb
  go_upto_region 4 with fail
  refine wp_name (fun W2 hW2 => ?_)
  have hR2 : W2.rangeAt w.heap.size 0 (evCells { e with over := over2 } (some ⟨w1.heap.size, 0, none⟩) 1) := by rw [hW2.out]; exact range_over over2 (World.rangeAt_alloc hR _)
  have hz2 : w1.heap.size < W2.heap.size := by rw [hW2.out]; simp
  have hd2 : DotsIn W2 (some ⟨w1.heap.size, 0, none⟩) over2 := by
    have hne : ∀ o : Nat, (⟨w.heap.size, 18, none⟩ : Addr) ≠ ⟨w1.heap.size, o, none⟩ := fun o h => by simp only [Addr.mk.injEq] at h; omega
    refine Or.inr ⟨w1.heap.size, 0, rfl, ⟨fun i hi => ?_, fun i hi => ?_, fun i hi => ?_⟩⟩ <;>
    · have h0 : i = 0 := by simpa [over2] using hi
      subst h0
      rw [hW2.out, World.cell?_setCell_other _ _ _ _ (hne _), World.cell?_alloc_new]
      rfl
  have hbt2 : Below w.heap.size w W2 := by rw [hW2.out]; exact (hbt.alloc (by omega) _).setCell (by simp) _
  have HY := Lib.hid (hev.yes w1.heap.size)
  have HB := Lib.hid (hev.bytes w1.heap.size)
  clear hW2 hca hfa h18 hf hR hbt H1 hz1
  go_wp2_with (first
    | ((with_reducible refine wpList_load_ev _ w.heap.size { e with over := over2 } (some ⟨w1.heap.size, 0, none⟩) 1 hR2 ?_ rfl ?_); exact rfl)
    | (go_at_call 12; (with_reducible refine (HB.out W2 hd2 hz2).mono ?_); rintro x w3 ⟨v, rfl, hown, hb⟩; rcases hown.2 with ⟨_, h⟩ | ⟨g, cap, cur, rfl, _⟩; exact absurd h (by decide); clear hown; replace hR2 := rangeAt_kept hR2 hb; replace hd2 := hd2.kept hb; replace hbt2 := below2 hbt2 hb)
    | (go_at_call 43; (with_reducible refine (HY.out _ hd2).mono ?_); rintro x w4 ⟨rfl, hb4⟩; replace hbt2 := below2 hbt2 hb4))
  go_ret
  exact ⟨rfl, hbt2⟩
end Go.Proofs.YtnpdfmpjjomhcaaGreat
