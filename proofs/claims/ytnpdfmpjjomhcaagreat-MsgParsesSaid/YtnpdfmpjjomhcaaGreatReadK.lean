/- An event, read off bytes: event.Read. Conditions: at most 2^30 bytes. -/
import Derived.Test.YtnpdfmpjjomhcaaGreatReadI
import Derived.Test.YtnpdfmpjjomhcaaGreatReadJ
set_option linter.unusedSimpArgs false
set_option linter.unusedVariables false
set_option linter.unnecessarySimpa false
namespace Go.Proofs.YtnpdfmpjjomhcaaGreat
open Go.RowKit

/-- what bytes are read as -/
def evRead (l : Bytes) : Ev × Int := if rEnd (rEv ⟨l, 0⟩).1 = 0 then ((rEv ⟨l, 0⟩).2, 0) else (ev0, rEnd (rEv ⟨l, 0⟩).1)
theorem evRead_evB {e : Ev} (h : evOk e = true) : evRead (evB e) = (e, 0) := by
  have := rEv_ev h []
  rw [List.append_nil] at this
  unfold evRead
  rw [this]
  rfl
def RetRead (l : Bytes) (w : World) (x : Ending) (w' : World) : Prop :=
  ∃ a cap, x = .returned (.tuple #[evVal (evRead l).1 a cap, .int .i64 (evRead l).2]) ∧ DotsIn w' a (evRead l).1.over ∧ Below w.heap.size w w'
set_option maxRecDepth 100000 in
set_option maxHeartbeats 2000000 in
theorem evRead_any (a : Option Addr) (cap : Nat) (l : Bytes) (w : World) (hl : l.length ≤ 1073741824) (h : BytesIn w a l) (hc : l.length ≤ cap) :
    Calls Tryz.prog 16 #[.slice a l.length cap] w (RetRead l w) := by
  have HV : Hid (evRead l = if rEnd (rEv ⟨l, 0⟩).1 = 0 then ((rEv ⟨l, 0⟩).2, 0) else (ev0, rEnd (rEv ⟨l, 0⟩).1)) := rfl
  have hfit := rEv_fit ⟨l, 0⟩
  have HG0 := fun (R : Nat) (W : World) (h : RdAt W R ⟨l, 0⟩) => evGet_r R ⟨l, 0⟩ W hl h
  obtain ⟨rr, e, hre⟩ : ∃ rr e, rEv ⟨l, 0⟩ = (rr, e) := ⟨(rEv ⟨l, 0⟩).1, (rEv ⟨l, 0⟩).2, rfl⟩
  rw [hre] at HV hfit
  simp only [hre] at HG0
  simp only at HV hfit
  have HG := Lib.hid HG0
  have HR := Lib.hid (fun (W : World) (h : BytesIn W a l) => packRead_any a cap l W h hc)
  have HN := Lib.hid (fun (R : Nat) (W : World) (h : RdAt W R rr) => End_r R rr W h (by omega))
  clear hre HG0
  go_enter Tryz.func16, Tryz.ntmps16
  go_upto_region 1 with fail
  refine wp_name (fun W hW => ?_)
  have hbt : Below w.heap.size w W := by rw [hW.out]; exact (Below.refl _ _).alloc (Nat.le_refl _) _
  have hZ : EvBlk W w.heap.size ev0 none 0 := by rw [hW.out]; exact heap_alloc_last w _
  have hz : w.heap.size < W.heap.size := by rw [hW.out]; simp
  have hb0 := h.kept hbt
  clear hW h
  go_upto_region 3 with (first
    | (go_at_call 55; (with_reducible refine (HR.out _ hb0).mono ?_); rintro x w1 ⟨rfl, hRd, hb⟩; replace hZ := hZ.below hb; replace hbt := below2 hbt hb; have hz1 := hb.size)
    | (go_at_call 56; (with_reducible refine (HG.out _ _ hRd).mono ?_); rintro x w2 ⟨ae, ce, rfl, hd, hR2, hF2, hae⟩; replace hZ := hZ.fr hF2 (by omega); have hz2 := hF2.size)
    | (refine wpList_store_new 34 _ _ _ (evCells e ae ce).toArray rfl rfl (by kernel_rfl) rfl (by kernel_rfl) ?_))
  refine wp_name (fun W3 hW3 => ?_)
  have hb3 : Below w2.heap.size w2 W3 := by rw [hW3.out]; exact (Below.refl _ _).alloc (Nat.le_refl _) _
  have hE : EvBlk W3 w2.heap.size e ae ce := by rw [hW3.out]; exact heap_alloc_last w2 _
  have hbw : Below w.heap.size w W3 := (hbt.trans (hF2.below (B := w.heap.size) (by omega) (fun k hk => by simp only [isR] at hk; omega))).trans (hb3.mono (by omega))
  replace hZ := hZ.below hb3
  replace hR2 := hR2.below hb3
  replace hd := hd.kept hb3
  clear hW3 hbt hF2 hb3 hRd hb0 hb
  by_cases hx : rEnd rr = 0
  · have hq : (rEnd rr != 0) = false := by rw [bne_eq_false_iff_eq]; exact hx
    have HE : Hid (evRead l = (e, 0)) := by rw [Hid, HV.out, if_pos hx]
    clear hx HV
    go_wp2_with (first
      | (go_at_call 57; (with_reducible refine (HN.out _ _ hR2).mono ?_); rintro x w4 ⟨rfl, rfl⟩)
      | ((with_reducible refine wpList_load_ev _ w2.heap.size e ae ce hE.cell ?_ rfl ?_); exact rfl)
      | (refine wpList_store_row rfl 34 _ _ rfl w.heap.size (evCells e ae ce).toArray rfl rfl 34 (evCells ev0 none 0).toArray hZ (by kernel_rfl) rfl (by kernel_rfl) ?_))
    refine ret_cell_tmp 2 3 34 34 w.heap.size (evCells e ae ce).toArray _ (.int .i64 0) rfl rfl rfl (setRow_heap _ _ _ _ _ _ hZ) Tryz.underlying34 rfl (by kernel_rfl) rfl ?_
    refine ⟨ae, ce, by rw [HE.out]; rfl, ?_, below_setRow hbw (Nat.le_refl _) _⟩
    rw [HE.out]
    exact hd.setRow _ (fun A off h => by have := hae A off h; omega)
  · have hq : (rEnd rr != 0) = true := by rw [bne_iff_ne]; exact hx
    have HE : Hid (evRead l = (ev0, rEnd rr)) := by rw [Hid, HV.out, if_neg hx]
    clear hx HV
    go_wp2_with (first
      | (go_at_call 57; (with_reducible refine (HN.out _ _ hR2).mono ?_); rintro x w4 ⟨rfl, rfl⟩)
      | (refine Great.wpList_buildTo rfl 34 _ rfl _ rfl #[.int .i64 0, .int .i64 0, .int .i64 0, .int .i64 0, .int .i64 0, .int .i64 0, .int .i64 0, .string ⟨#[]⟩, .string ⟨#[]⟩, .string ⟨#[]⟩, .string ⟨#[]⟩, .bool false, .bool false, .bool false, .bool false, .int .i64 0, .int .i64 0, .int .i64 0, .slice none 0 0] (by kernel_rfl) ?_)
      | (refine wpList_store_row rfl 34 _ _ rfl w.heap.size #[.int .i64 0, .int .i64 0, .int .i64 0, .int .i64 0, .int .i64 0, .int .i64 0, .int .i64 0, .string ⟨#[]⟩, .string ⟨#[]⟩, .string ⟨#[]⟩, .string ⟨#[]⟩, .bool false, .bool false, .bool false, .bool false, .int .i64 0, .int .i64 0, .int .i64 0, .slice none 0 0] rfl rfl 34 (evCells ev0 none 0).toArray hZ (by kernel_rfl) rfl (by kernel_rfl) ?_))
    refine ret_cell_tmp 2 3 34 34 w.heap.size #[.int .i64 0, .int .i64 0, .int .i64 0, .int .i64 0, .int .i64 0, .int .i64 0, .int .i64 0, .string ⟨#[]⟩, .string ⟨#[]⟩, .string ⟨#[]⟩, .string ⟨#[]⟩, .bool false, .bool false, .bool false, .bool false, .int .i64 0, .int .i64 0, .int .i64 0, .slice none 0 0] _ (.int .i64 (rEnd rr)) rfl rfl rfl (setRow_heap _ _ _ _ _ _ hZ) Tryz.underlying34 rfl (by kernel_rfl) rfl ?_
    exact ⟨none, 0, by rw [HE.out]; rfl, by rw [HE.out]; exact Or.inl rfl, below_setRow hbw (Nat.le_refl _) _⟩
end Go.Proofs.YtnpdfmpjjomhcaaGreat
