/- An event's bytes. Conditions: texts of at most 2^24 bytes. -/
import Derived.Test.YtnpdfmpjjomhcaaGreatPut
set_option linter.unusedSimpArgs false
set_option linter.unusedVariables false
set_option linter.unnecessarySimpa false
namespace Go.Proofs.YtnpdfmpjjomhcaaGreat
open Go.RowKit

/-- behind event.Bytes of an event that may be -/
def RetEvB (l : Bytes) (w : World) (x : Ending) (w' : World) : Prop :=
  ∃ v, x = .returned (.tuple #[v, .int .i64 0]) ∧ w'.ownsRow w.heap.size 5 1 v l.length (byteVals l) ∧ Below w.heap.size w w'

theorem own_mono {w : World} {base b2 : Nat} {e : TypeId} {size : Nat} {v : Value} {n : Nat} {xs : List Value} (h : w.ownsRow base e size v n xs) (hb : b2 ≤ base) : w.ownsRow b2 e size v n xs := by
  rcases h.2 with hn | ⟨g, cap, cur, hv, hbs, rest⟩
  · exact ⟨h.1, .inl hn⟩
  · exact ⟨h.1, .inr ⟨g, cap, cur, hv, Nat.le_trans hb hbs, rest⟩⟩
theorem evB_len (e : Ev) (h64 : e.over.length ≤ 64) (ht : EvTiny e) (hf : EvFit e) : (evB e).length ≤ 100000000 := by
  have d1 := dotB_len e.dot
  have d2 := stampB_len e.stamp
  have d3 := shortB_len10 e.over.length (by omega)
  have d4 := dotsB_len e.over
  obtain ⟨s1, s2, s3, s4⟩ := ht
  have t1 := textB_len (bl e.key.name) (by rw [bl_length]; omega)
  have t2 := textB_len (bl e.key.domain) (by rw [bl_length]; omega)
  have t3 := textB_len (bl e.key.path) (by rw [bl_length]; omega)
  have t4 := textB_len (bl e.ck.value) (by rw [bl_length]; omega)
  simp only [bl_length] at t1 t2 t3 t4
  unfold evB evHead evTail
  split
  · rename_i h1
    obtain ⟨⟨f1, f2⟩, ⟨f3, f4⟩, f5, f6⟩ := hf.item h1
    have t5 := zigB_len e.ck.expiry (by omega) (by omega)
    have t6 := shortB_len10 e.ck.creation.toNat (by omega)
    have t7 := shortB_len10 e.ck.access.toNat (by omega)
    simp only [List.length_append, List.length_singleton]; omega
  · simp only [List.length_append, List.length_singleton, List.length_nil]; omega

set_option maxRecDepth 100000 in
set_option maxHeartbeats 2000000 in
theorem Bytes_yes (e : Ev) (a : Option Addr) (cap : Nat) (w : World) (hs : EvSmall e) (hsz : EvTiny e) (hover : DotsIn w a e.over) (hA : ∀ A off, a = some ⟨A, off, none⟩ → e.over ≠ [] → A < w.heap.size) (hyes : evOk e = true) :
    Calls Tryz.prog 12 #[evVal e a cap] w (RetEvB (evB e) w) := by
  have hE0 := fun (W : World) (ho : DotsIn W a e.over) => eventRight_any e a cap W hs ho
  rw [hyes] at hE0
  have hE := Lib.hid hE0
  have hfit := evOk_fit hyes
  have hlen := evB_len e hfit.over hsz hfit
  have HP := Lib.hid (fun (S : Nat → Prop) (B : Nat) (W : World) (ho : DotsIn W a e.over) (hSA : ∀ A off, a = some ⟨A, off, none⟩ → e.over ≠ [] → ¬ S A) (h : Wr W S B []) => eventPut_yes S B [] e a cap W (by simp) hs hsz ho hSA h hyes)
  clear hE0 hyes hfit
  go_enter Tryz.func12, Tryz.ntmps12
  go_upto_region 1 with fail
  refine wp_name (fun W hW => ?_)
  have hbt : Below w.heap.size w W := by rw [hW.out]; go_grown
  have hz : W.heap.size = w.heap.size + 1 := by rw [hW.out]; simp
  have hR : W.rangeAt w.heap.size 0 (evCells e a cap) := by rw [hW.out]; exact evCells_box e a cap w _
  have ho := hover.kept hbt
  clear hW hover
  go_upto_region 4 with (first
    | ((with_reducible refine wpList_load_ev _ w.heap.size e a cap hR ?_ rfl ?_); exact rfl)
    | (go_at_call 43; refine (hE.out _ ho).mono ?_; rintro x w1 ⟨rfl, hb⟩; replace hR := rangeAt_kept hR hb; replace ho := ho.kept hb; replace hbt := below2 hbt hb; have hz1 := hb.size))
  refine wp_name (fun W2 hW2 => ?_)
  have hb2 : Below w1.heap.size w1 W2 := by rw [hW2.out]; go_grown
  have hbt2 : Below w.heap.size w W2 := below2 hbt hb2
  have hR2 := rangeAt_kept hR hb2
  have ho2 := ho.kept hb2
  have hWr : Wr W2 (fun k => k = w1.heap.size) w1.heap.size [] := by
    refine ⟨rfl, .slice none 0 0, 0, by rw [hW2.out]; exact Array.getElem?_push_size, World.ownsRow_nil _ _ _ _, fun g hg => by cases hg⟩
  have HW := Lib.hid (HP.out _ _ W2 ho2 (fun A off h hne g => by have := hA A off h hne; omega) hWr)
  clear hR hb hE HP hW2 ho
  go_wp2_with (first
    | ((with_reducible refine wpList_load_ev _ w.heap.size e a cap hR2 ?_ rfl ?_); exact rfl)
    | (go_at_call 13; (with_reducible refine HW.out.mono ?_); rintro x w3 ⟨rfl, H3⟩; rw [List.nil_append] at H3)
    | (go_at_call 15; (with_reducible refine (WBytes_h H3 (by omega)).mono ?_); rintro x w4 ⟨v, rfl, hown, hb4⟩))
  go_returns
  have hs3 := H3.fr.size
  have hs2 := hb2.size
  have hB3 : Below w.heap.size W2 w3 := H3.fr.below (by omega) (fun k g => by omega)
  exact ⟨v, rfl, own_mono hown (by omega), (hbt2.trans hB3).trans (hb4.mono (by omega))⟩

/-- what event.Bytes answers -/
def evBytes (e : Ev) : Bytes := if evOk e = true then evB e else []
def evErr (e : Ev) : Int := if evOk e = true then 0 else 1
def RetEv (e : Ev) (w : World) (x : Ending) (w' : World) : Prop :=
  ∃ a cap, x = .returned (.tuple #[.slice a (evBytes e).length cap, .int .i64 (evErr e)]) ∧ BytesIn w' a (evBytes e) ∧ (evBytes e).length ≤ 100000000 ∧ Below w.heap.size w w'
set_option maxRecDepth 100000 in
set_option maxHeartbeats 2000000 in
theorem Bytes_no (e : Ev) (a : Option Addr) (cap : Nat) (w : World) (hs : EvSmall e) (hover : DotsIn w a e.over) (hno : evOk e = false) :
    Calls Tryz.prog 12 #[evVal e a cap] w fun x w' => x = .returned (.tuple #[.slice none 0 0, .int .i64 1]) ∧ Below w.heap.size w w' := by
  have hE0 := fun (W : World) (ho : DotsIn W a e.over) => eventRight_any e a cap W hs ho
  rw [hno] at hE0
  have hE := Lib.hid hE0
  clear hE0 hno
  go_enter Tryz.func12, Tryz.ntmps12
  go_upto_region 1 with fail
  refine wp_name (fun W hW => ?_)
  have hbt : Below w.heap.size w W := by rw [hW.out]; go_grown
  have hR : W.rangeAt w.heap.size 0 (evCells e a cap) := by rw [hW.out]; exact evCells_box e a cap w _
  have ho := hover.kept hbt
  clear hW hover
  go_wp2_with (first
    | ((with_reducible refine wpList_load_ev _ w.heap.size e a cap hR ?_ rfl ?_); exact rfl)
    | (go_at_call 43; refine (hE.out _ ho).mono ?_; rintro x w1 ⟨rfl, hb⟩; replace hbt := below2 hbt hb))
  go_returns
  exact ⟨rfl, hbt⟩
theorem Bytes_any (e : Ev) (a : Option Addr) (cap : Nat) (w : World) (hs : EvSmall e) (hsz : EvTiny e) (hover : DotsIn w a e.over) (hA : ∀ A off, a = some ⟨A, off, none⟩ → e.over ≠ [] → A < w.heap.size) :
    Calls Tryz.prog 12 #[evVal e a cap] w (RetEv e w) := by
  cases hok : evOk e with
  | false =>
    refine (Bytes_no e a cap w hs hover hok).mono ?_
    rintro x w' ⟨rfl, hb⟩
    have h1 : evBytes e = [] := by unfold evBytes; simp [hok]
    have h2 : evErr e = 1 := by unfold evErr; simp [hok]
    exact ⟨none, 0, by rw [h1, h2]; rfl, Or.inl h1, by rw [h1]; simp, hb⟩
  | true =>
    refine (Bytes_yes e a cap w hs hsz hover hA hok).mono ?_
    rintro x w' ⟨v, rfl, hown, hb⟩
    have h1 : evBytes e = evB e := by unfold evBytes; simp [hok]
    have h2 : evErr e = 0 := by unfold evErr; simp [hok]
    obtain ⟨a', cap', rfl, hin⟩ := own_bytes hown
    refine ⟨a', cap', by rw [h1, h2], by rw [h1]; exact hin, ?_, hb⟩
    rw [h1]
    have hfit := evOk_fit hok
    exact evB_len e hfit.over hsz hfit
end Go.Proofs.YtnpdfmpjjomhcaaGreat
