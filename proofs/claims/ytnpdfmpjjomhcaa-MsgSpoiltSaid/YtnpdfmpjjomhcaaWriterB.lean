/- The writer's flags and bytes; dots and stamps packed. Conditions: at most 2^29 bytes. -/
import Derived.Test.YtnpdfmpjjomhcaaWriter
import Derived.Test.YtnpdfmpjjomhcaaDot
set_option linter.unusedSimpArgs false
set_option linter.unusedVariables false
set_option linter.unnecessarySimpa false
namespace Go.Proofs.Ytnpdfmpjjomhcaa
open Go.RowKit

theorem not_grow {S : Nat → Prop} {b : Nat} {w w2 : World} (h : ¬ S b) (hs : w.heap.size ≤ w2.heap.size) (hb : b < w.heap.size) : ¬ grow S w2 b := fun g => by
  rcases g with g | g
  · exact h g
  · omega
def RetUnit (S : Nat → Prop) (B : Nat) (l : Bytes) (w : World) (e : Ending) (w' : World) : Prop :=
  e = .returned (.tuple #[]) ∧ Wr w' (grow S w) B l ∧ Fr S w w'

set_option maxRecDepth 100000 in
set_option maxHeartbeats 1000000 in
theorem WBytes_any (S : Nat → Prop) (B : Nat) (l : Bytes) (w : World) (hl : l.length ≤ 536870912) (h : Wr w S B l) :
    Calls Try.prog 15 #[.pointer (some ⟨B, 0, none⟩)] w (RetBytes l w) := by
  obtain ⟨hS, v, base, h0, hown, hg⟩ := h
  obtain ⟨a, cap, rfl, hin⟩ := own_bytes hown
  have hc := cell_of_one h0
  have hP := Lib.hid (CloneBytes_any a cap l w (by omega) hin)
  have H0 := Lib.hid h0
  clear h0 hown hg hin
  go_enter Try.func15, Try.ntmps15
  go_wp2_with (go_at_call 39; refine hP.out.mono ?_; rintro e w1 ⟨v', rfl, hown1, hb⟩)
  go_ret
  exact ⟨_, rfl, hown1, hb⟩

def dotB (d : Dot) : Bytes := if dotOk d = true then shortB d.a.dev.toNat ++ shortB d.a.inc.toNat ++ shortB d.seq.toNat else []
def stampB (s : Stamp) : Bytes := if stampOk s = true then shortB s.wall.toNat ++ shortB s.count.toNat ++ shortB s.dev.toNat else []

set_option maxRecDepth 100000 in
set_option maxHeartbeats 2000000 in
theorem dotPut_any (S : Nat → Prop) (B : Nat) (l : Bytes) (d : Dot) (w : World) (hl : l.length ≤ 536870800) (h : Wr w S B l) (hSl : ∀ k, S k → k < w.heap.size) :
    Calls Try.prog 30 #[.pointer (some ⟨B, 0, none⟩), .agg #[.int .i64 d.a.dev, .int .i64 d.a.inc, .int .i64 d.seq]] w (RetUnit S B (l ++ dotB d) w) := by
  have HR0 := fun (W : World) => dotRight_any d W
  cases h1 : dotOk d with
  | false =>
    have HB : Hid (l ++ dotB d = l) := by unfold Hid dotB; rw [h1]; simp
    rw [h1] at HR0
    have HR := Lib.hid HR0
    clear HR0 h1
    go_enter Try.func30, Try.ntmps30
    go_wp2_with (go_at_call 52; refine (HR.out _).mono ?_; rintro e w1 ⟨rfl, hb⟩)
    go_end0
    have hb2 := below2 ((Below.refl w.heap.size w).alloc (Nat.le_refl _) (Obj.cells #[.int .i64 d.a.dev, .int .i64 d.a.inc, .int .i64 d.seq] 46)) hb
    exact ⟨rfl, by rw [HB.out]; exact (h.frame (Fr.of_below (S := fun _ => False) hb2) (fun _ _ g => g)).mono (fun _ g => Or.inl g), Fr.of_below hb2⟩
  | true =>
    have hd : 0 ≤ d.a.dev ∧ d.a.dev < 64 ∧ 1 ≤ d.a.inc ∧ d.a.inc ≤ 1048576 ∧ 1 ≤ d.seq ∧ d.seq ≤ 4294967296 := by
      have := h1; unfold dotOk actorOk at this; simp at this; omega
    have HB : Hid (l ++ dotB d = l ++ shortB d.a.dev.toNat ++ shortB d.a.inc.toNat ++ shortB d.seq.toNat) := by unfold Hid dotB; rw [h1]; simp
    rw [h1] at HR0
    have HR := Lib.hid HR0
    obtain ⟨x, hx⟩ : ∃ x : Nat, d.a.dev = x := ⟨d.a.dev.toNat, by omega⟩
    obtain ⟨y, hy⟩ : ∃ y : Nat, d.a.inc = y := ⟨d.a.inc.toNat, by omega⟩
    obtain ⟨z, hz⟩ : ∃ z : Nat, d.seq = z := ⟨d.seq.toNat, by omega⟩
    rw [hx, hy, hz] at hd HB
    rw [hx, hy, hz] at HR ⊢
    obtain ⟨e1, e2, e3, e4, e5, e6⟩ := hd
    have l1 := shortB_len10 x (by omega)
    have l2 := shortB_len10 y (by omega)
    have l3 := shortB_len10 z (by omega)
    clear HR0 h1 hx hy hz
    go_enter Try.func30, Try.ntmps30
    go_wp2_with (go_at_call 52; refine (HR.out _).mono ?_; rintro e w1 ⟨rfl, hb⟩; have q0 := kept hb (World.cell?_alloc_new w #[.int .i64 x, .int .i64 y, .int .i64 z] 46 0); have q1 := kept hb (World.cell?_alloc_new w #[.int .i64 x, .int .i64 y, .int .i64 z] 46 1); have q2 := kept hb (World.cell?_alloc_new w #[.int .i64 x, .int .i64 y, .int .i64 z] 46 2))
    have hz1 : w.heap.size < w1.heap.size := World.block_lt_of_cell? w1 _ q0
    have hb2 := below2 ((Below.refl w.heap.size w).alloc (Nat.le_refl _) (Obj.cells #[.int .i64 (x : Int), .int .i64 (y : Int), .int .i64 (z : Int)] 46)) hb
    have hw1 : Wr w1.drew S B l := (h.frame (Fr.of_below (S := fun _ => False) hb2) (fun _ _ g => g)).frame (Fr.of_below (S := fun _ => False) (Below.refl w1.heap.size w1).drew) (fun _ _ g => g)
    have hns : ¬ S w.heap.size := fun g => by have := hSl _ g; omega
    have hns1 : ¬ grow S w1.drew w.heap.size := fun g => by rcases g with g | g; exact hns g; simp at g; omega
    have Q0 : w1.drew.cell? ⟨w.heap.size, 0, none⟩ = some (.int .i64 x) := q0
    have Q1 : w1.drew.cell? ⟨w.heap.size, 1, none⟩ = some (.int .i64 y) := q1
    have Q2 : w1.drew.cell? ⟨w.heap.size, 2, none⟩ = some (.int .i64 z) := q2
    have HN1 := Lib.hid (Num_any S B l x w1.drew (by omega) (by omega) hw1)
    have HN2 := Lib.hid (fun (W : World) (hW : Wr W (grow S w1.drew) B (l ++ shortB x)) => Num_any (grow S w1.drew) B (l ++ shortB x) y W (by simp; omega) (by omega) hW)
    have HN3 := Lib.hid (fun (T : Nat → Prop) (W : World) (hW : Wr W T B (l ++ shortB x ++ shortB y)) => Num_any T B (l ++ shortB x ++ shortB y) z W (by simp; omega) (by omega) hW)
    have hwx : IntKind.u64.wrap (x : Int) = (x : Int) := IntWalk.u64_in _ (by omega)
    have hwy : IntKind.u64.wrap (y : Int) = (y : Int) := IntWalk.u64_in _ (by omega)
    have hwz : IntKind.u64.wrap (z : Int) = (z : Int) := IntWalk.u64_in _ (by omega)
    clear q0 q1 q2
    go_region_held3 (fun w' => w'.cell? ⟨w.heap.size, 0, none⟩ = some (.int .i64 x) ∧ w'.cell? ⟨w.heap.size, 1, none⟩ = some (.int .i64 y) ∧ w'.cell? ⟨w.heap.size, 2, none⟩ = some (.int .i64 z)) (first | exact ⟨k0, k1, k2⟩ | go_keep)
      (first
        | (go_at_call 11; (with_reducible refine HN1.out.mono ?_); rintro e w2 ⟨rfl, hw2, hf2⟩; have k0 := hf2.kept Q0 hns; have k1 := hf2.kept Q1 hns; have k2 := hf2.kept Q2 hns)
        | (go_at_call 11; (with_reducible refine (HN2.out _ hw2).mono ?_); rintro e w3 ⟨rfl, hw3, hf3⟩; have k0 := hf3.kept k0 hns1; have k1 := hf3.kept k1 hns1; have k2 := hf3.kept k2 hns1)
        | (go_at_call 11; (with_reducible refine (HN3.out _ _ hw3).mono ?_); rintro e w4 ⟨rfl, hw4, hf4⟩; have hns2 := not_grow hns1 hf2.size (by simpa using hz1); have k0 := hf4.kept k0 hns2; have k1 := hf4.kept k1 hns2; have k2 := hf4.kept k2 hns2))
    go_wp2
    go_end0
    have hs12 : w1.drew.heap.size ≤ w2.heap.size := hf2.size
    refine ⟨rfl, ?_, ?_⟩
    · rw [HB.out]
      refine hw4.mono fun k g => ?_
      have g1 := grow_grow hf3.size k g
      have g2 := grow_grow hf2.size k g1
      rcases g2 with g2 | g2
      · exact Or.inl g2
      · exact Or.inr (by simp at g2; omega)
    · exact (Fr.of_below (hb2.drew)).trans (((hf2.trans (hf3.trans hf4)).mono fun k hk g => Or.inl g))
set_option maxRecDepth 100000 in
set_option maxHeartbeats 2000000 in
theorem clockPut_any (S : Nat → Prop) (B : Nat) (l : Bytes) (d : Stamp) (w : World) (hl : l.length ≤ 536870800) (h : Wr w S B l) (hSl : ∀ k, S k → k < w.heap.size) :
    Calls Try.prog 32 #[.pointer (some ⟨B, 0, none⟩), .agg #[.int .i64 d.wall, .int .i64 d.count, .int .i64 d.dev]] w (RetUnit S B (l ++ stampB d) w) := by
  have HR0 := fun (W : World) => clockRight_any d W
  cases h1 : stampOk d with
  | false =>
    have HB : Hid (l ++ stampB d = l) := by unfold Hid stampB; rw [h1]; simp
    rw [h1] at HR0
    have HR := Lib.hid HR0
    clear HR0 h1
    go_enter Try.func32, Try.ntmps32
    go_wp2_with (go_at_call 53; refine (HR.out _).mono ?_; rintro e w1 ⟨rfl, hb⟩)
    go_end0
    have hb2 := below2 ((Below.refl w.heap.size w).alloc (Nat.le_refl _) (Obj.cells #[.int .i64 d.wall, .int .i64 d.count, .int .i64 d.dev] 48)) hb
    exact ⟨rfl, by rw [HB.out]; exact (h.frame (Fr.of_below (S := fun _ => False) hb2) (fun _ _ g => g)).mono (fun _ g => Or.inl g), Fr.of_below hb2⟩
  | true =>
    have hd : 0 ≤ d.wall ∧ d.wall ≤ 4398046511104 ∧ 0 ≤ d.count ∧ d.count ≤ 65535 ∧ 0 ≤ d.dev ∧ d.dev ≤ 63 := by
      have := h1; unfold stampOk at this; simp at this; omega
    have HB : Hid (l ++ stampB d = l ++ shortB d.wall.toNat ++ shortB d.count.toNat ++ shortB d.dev.toNat) := by unfold Hid stampB; rw [h1]; simp
    rw [h1] at HR0
    have HR := Lib.hid HR0
    obtain ⟨x, hx⟩ : ∃ x : Nat, d.wall = x := ⟨d.wall.toNat, by omega⟩
    obtain ⟨y, hy⟩ : ∃ y : Nat, d.count = y := ⟨d.count.toNat, by omega⟩
    obtain ⟨z, hz⟩ : ∃ z : Nat, d.dev = z := ⟨d.dev.toNat, by omega⟩
    rw [hx, hy, hz] at hd HB
    rw [hx, hy, hz] at HR ⊢
    obtain ⟨e1, e2, e3, e4, e5, e6⟩ := hd
    have l1 := shortB_len10 x (by omega)
    have l2 := shortB_len10 y (by omega)
    have l3 := shortB_len10 z (by omega)
    clear HR0 h1 hx hy hz
    go_enter Try.func32, Try.ntmps32
    go_wp2_with (go_at_call 53; refine (HR.out _).mono ?_; rintro e w1 ⟨rfl, hb⟩; have q0 := kept hb (World.cell?_alloc_new w #[.int .i64 x, .int .i64 y, .int .i64 z] 48 0); have q1 := kept hb (World.cell?_alloc_new w #[.int .i64 x, .int .i64 y, .int .i64 z] 48 1); have q2 := kept hb (World.cell?_alloc_new w #[.int .i64 x, .int .i64 y, .int .i64 z] 48 2))
    have hz1 : w.heap.size < w1.heap.size := World.block_lt_of_cell? w1 _ q0
    have hb2 := below2 ((Below.refl w.heap.size w).alloc (Nat.le_refl _) (Obj.cells #[.int .i64 (x : Int), .int .i64 (y : Int), .int .i64 (z : Int)] 48)) hb
    have hw1 : Wr w1.drew S B l := (h.frame (Fr.of_below (S := fun _ => False) hb2) (fun _ _ g => g)).frame (Fr.of_below (S := fun _ => False) (Below.refl w1.heap.size w1).drew) (fun _ _ g => g)
    have hns : ¬ S w.heap.size := fun g => by have := hSl _ g; omega
    have hns1 : ¬ grow S w1.drew w.heap.size := fun g => by rcases g with g | g; exact hns g; simp at g; omega
    have Q0 : w1.drew.cell? ⟨w.heap.size, 0, none⟩ = some (.int .i64 x) := q0
    have Q1 : w1.drew.cell? ⟨w.heap.size, 1, none⟩ = some (.int .i64 y) := q1
    have Q2 : w1.drew.cell? ⟨w.heap.size, 2, none⟩ = some (.int .i64 z) := q2
    have HN1 := Lib.hid (Num_any S B l x w1.drew (by omega) (by omega) hw1)
    have HN2 := Lib.hid (fun (W : World) (hW : Wr W (grow S w1.drew) B (l ++ shortB x)) => Num_any (grow S w1.drew) B (l ++ shortB x) y W (by simp; omega) (by omega) hW)
    have HN3 := Lib.hid (fun (T : Nat → Prop) (W : World) (hW : Wr W T B (l ++ shortB x ++ shortB y)) => Num_any T B (l ++ shortB x ++ shortB y) z W (by simp; omega) (by omega) hW)
    have hwx : IntKind.u64.wrap (x : Int) = (x : Int) := IntWalk.u64_in _ (by omega)
    have hwy : IntKind.u64.wrap (y : Int) = (y : Int) := IntWalk.u64_in _ (by omega)
    have hwz : IntKind.u64.wrap (z : Int) = (z : Int) := IntWalk.u64_in _ (by omega)
    clear q0 q1 q2
    go_region_held3 (fun w' => w'.cell? ⟨w.heap.size, 0, none⟩ = some (.int .i64 x) ∧ w'.cell? ⟨w.heap.size, 1, none⟩ = some (.int .i64 y) ∧ w'.cell? ⟨w.heap.size, 2, none⟩ = some (.int .i64 z)) (first | exact ⟨k0, k1, k2⟩ | go_keep)
      (first
        | (go_at_call 11; (with_reducible refine HN1.out.mono ?_); rintro e w2 ⟨rfl, hw2, hf2⟩; have k0 := hf2.kept Q0 hns; have k1 := hf2.kept Q1 hns; have k2 := hf2.kept Q2 hns)
        | (go_at_call 11; (with_reducible refine (HN2.out _ hw2).mono ?_); rintro e w3 ⟨rfl, hw3, hf3⟩; have k0 := hf3.kept k0 hns1; have k1 := hf3.kept k1 hns1; have k2 := hf3.kept k2 hns1)
        | (go_at_call 11; (with_reducible refine (HN3.out _ _ hw3).mono ?_); rintro e w4 ⟨rfl, hw4, hf4⟩; have hns2 := not_grow hns1 hf2.size (by simpa using hz1); have k0 := hf4.kept k0 hns2; have k1 := hf4.kept k1 hns2; have k2 := hf4.kept k2 hns2))
    go_wp2
    go_end0
    have hs12 : w1.drew.heap.size ≤ w2.heap.size := hf2.size
    refine ⟨rfl, ?_, ?_⟩
    · rw [HB.out]
      refine hw4.mono fun k g => ?_
      have g1 := grow_grow hf3.size k g
      have g2 := grow_grow hf2.size k g1
      rcases g2 with g2 | g2
      · exact Or.inl g2
      · exact Or.inr (by simp at g2; omega)
    · exact (Fr.of_below (hb2.drew)).trans (((hf2.trans (hf3.trans hf4)).mono fun k hk g => Or.inl g))
end Go.Proofs.Ytnpdfmpjjomhcaa
