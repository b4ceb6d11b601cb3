/- The law MsgBytes, walked. Conditions: none. -/
import Derived.Test.YtnpdfmpjjomhcaaGreatMsgP
set_option linter.unusedSimpArgs false
set_option linter.unusedVariables false
set_option linter.unnecessarySimpa false
namespace Go.Proofs.YtnpdfmpjjomhcaaGreat
open Go.RowKit

theorem msgOk_small {m : MsgIt} (h : msgOk m.msg = true) : MsgSmall m := by
  have hf := msgOk_fit h
  have h1 := (marksErr_all hf.marks).1
  have h2 := hf.len
  simp only [MsgIt.msg] at h1 h2
  rw [evsOf_length] at h2
  exact ⟨by omega, by omega, fun x hx => evOk_small (hf.evs x.1 (List.mem_map_of_mem hx))⟩
set_option maxRecDepth 100000 in
set_option maxHeartbeats 4000000 in
theorem lawMBytes_heavy (x : MsgIt) (w : World) (hx : MsgArg w x) (h1 : mlight x.msg = false) :
    Calls Tryz.prog 7 #[msgVal x] w fun v w' => v = .returned (.bool true) ∧ Below w.heap.size w w' := by
  have HA := Lib.hid awake35_any
  have HX0 := fun (W : World) (hb : Below w.heap.size w W) => mlight_any x W (hx.marks.kept hb) (hx.evs.evs.kept hb) hx.evs.len hx.len hx.sizes
  rw [h1] at HX0
  have HX := Lib.hid HX0
  clear HX0 h1 hx
  go_enter Tryz.func7, Tryz.ntmps7
  go_upto_region 1 with fail
  refine wp_name (fun W hW => ?_)
  have hbt : Below w.heap.size w W := by rw [hW.out]; go_grown
  have p0 : W.cell? ⟨w.heap.size, 0, none⟩ = some (.int .i64 x.kind) := by rw [hW.out]; go_simp
  have p1 : W.cell? ⟨w.heap.size, 1, none⟩ = some (.int .i64 x.frm) := by rw [hW.out]; go_simp
  have p2 : W.cell? ⟨w.heap.size, 2, none⟩ = some (.int .i64 x.dst) := by rw [hW.out]; go_simp
  have p3 : W.cell? ⟨w.heap.size, 3, none⟩ = some (.slice x.am x.marks.length x.cm) := by rw [hW.out]; go_simp
  have p4 : W.cell? ⟨w.heap.size, 4, none⟩ = some (.slice x.ae x.evs.length x.ce) := by rw [hW.out]; go_simp
  clear hW
  go_wp2_with (first
    | (go_at_call 33; (with_reducible refine (HX.out _ hbt).mono ?_); rintro v w1 ⟨rfl, hb⟩; replace hbt := below2 hbt hb; replace p0 := kept hb p0; replace p1 := kept hb p1; replace p2 := kept hb p2; replace p3 := kept hb p3; replace p4 := kept hb p4
      )
    | (go_at_call 34; (with_reducible refine (HA.out _).mono ?_); rintro v w7 ⟨rfl, hb7⟩; replace hbt := below2 hbt hb7))
  go_ret
  exact ⟨rfl, hbt⟩
set_option maxRecDepth 100000 in
set_option maxHeartbeats 4000000 in
theorem lawMBytes_no (x : MsgIt) (w : World) (hx : MsgArg w x) (h1 : mlight x.msg = true) (hok : msgOk x.msg = false) :
    Calls Tryz.prog 7 #[msgVal x] w fun v w' => v = .returned (.bool true) ∧ Below w.heap.size w w' := by
  have HA := Lib.hid awake35_any
  have HX0 := fun (W : World) (hb : Below w.heap.size w W) => mlight_any x W (hx.marks.kept hb) (hx.evs.evs.kept hb) hx.evs.len hx.len hx.sizes
  rw [h1] at HX0
  have HX := Lib.hid HX0
  have sx := mlight_small h1
  have HB := Lib.hid (fun (W : World) (hb : Below w.heap.size w W) => MsgBytes_no x W sx (hx.inn.kept hb) hok)
  have HR0 := fun (W : World) (hb : Below w.heap.size w W) => rMsgRight_any x W sx (hx.inn.kept hb)
  have HP0 := fun (W : World) (hb : Below w.heap.size w W) => MsgRight_any x W sx (hx.inn.kept hb)
  rw [hok] at HR0 HP0
  have HR := Lib.hid HR0
  have HP := Lib.hid HP0
  clear HX0 HR0 HP0 h1 hok hx sx
  go_enter Tryz.func7, Tryz.ntmps7
  go_upto_region 1 with fail
  refine wp_name (fun W hW => ?_)
  have hbt : Below w.heap.size w W := by rw [hW.out]; go_grown
  have p0 : W.cell? ⟨w.heap.size, 0, none⟩ = some (.int .i64 x.kind) := by rw [hW.out]; go_simp
  have p1 : W.cell? ⟨w.heap.size, 1, none⟩ = some (.int .i64 x.frm) := by rw [hW.out]; go_simp
  have p2 : W.cell? ⟨w.heap.size, 2, none⟩ = some (.int .i64 x.dst) := by rw [hW.out]; go_simp
  have p3 : W.cell? ⟨w.heap.size, 3, none⟩ = some (.slice x.am x.marks.length x.cm) := by rw [hW.out]; go_simp
  have p4 : W.cell? ⟨w.heap.size, 4, none⟩ = some (.slice x.ae x.evs.length x.ce) := by rw [hW.out]; go_simp
  clear hW
  go_wp2_with (first
    | (go_at_call 33; (with_reducible refine (HX.out _ hbt).mono ?_); rintro v w1 ⟨rfl, hb⟩; replace hbt := below2 hbt hb; replace p0 := kept hb p0; replace p1 := kept hb p1; replace p2 := kept hb p2; replace p3 := kept hb p3; replace p4 := kept hb p4
      )
    | (go_at_call 35; (with_reducible refine (HB.out _ hbt).mono ?_); rintro v w1 ⟨rfl, hb⟩; replace hbt := below2 hbt hb; replace p0 := kept hb p0; replace p1 := kept hb p1; replace p2 := kept hb p2; replace p3 := kept hb p3; replace p4 := kept hb p4
      )
    | (go_at_call 36; (with_reducible refine (HR.out _ hbt).mono ?_); rintro v w1 ⟨rfl, hb⟩; replace hbt := below2 hbt hb; replace p0 := kept hb p0; replace p1 := kept hb p1; replace p2 := kept hb p2; replace p3 := kept hb p3; replace p4 := kept hb p4
      )
    | (go_at_call 37; (with_reducible refine (HP.out _ hbt).mono ?_); rintro v w1 ⟨rfl, hb⟩; replace hbt := below2 hbt hb; replace p0 := kept hb p0; replace p1 := kept hb p1; replace p2 := kept hb p2; replace p3 := kept hb p3; replace p4 := kept hb p4
      )
    | (go_at_call 34; (with_reducible refine (HA.out _).mono ?_); rintro v w7 ⟨rfl, hb7⟩; replace hbt := below2 hbt hb7))
  go_ret
  exact ⟨rfl, hbt⟩
set_option maxRecDepth 100000 in
set_option maxHeartbeats 8000000 in
theorem lawMBytes_yes (x : MsgIt) (w : World) (hx : MsgArg w x) (h1 : mlight x.msg = true) (hok : msgOk x.msg = true) :
    Calls Tryz.prog 7 #[msgVal x] w fun v w' => v = .returned (.bool true) ∧ Below w.heap.size w w' := by
  have HA := Lib.hid awake35_any
  have HX0 := fun (W : World) (hb : Below w.heap.size w W) => mlight_any x W (hx.marks.kept hb) (hx.evs.evs.kept hb) hx.evs.len hx.len hx.sizes
  rw [h1] at HX0
  have HX := Lib.hid HX0
  have sx := mlight_small h1
  have hlen := msgB_len hok h1
  have HB0 := fun (W : World) (hb : Below w.heap.size w W) => MsgBytes_yes x W sx (hx.olds.later hb (fun _ _ _ e => e)) hok hlen
  have HG0 := fun (W : World) (hb : Below w.heap.size w W) => rMsgBytes_any x W (hx.inn.kept hb) hok hlen
  have HR0 := fun (W : World) (hb : Below w.heap.size w W) => rMsgRight_any x W sx (hx.inn.kept hb)
  have HP0 := fun (W : World) (hb : Below w.heap.size w W) => MsgRight_any x W sx (hx.inn.kept hb)
  rw [hok] at HR0 HP0
  have HR := Lib.hid HR0
  have HP := Lib.hid HP0
  have hpr := msgParse_frame hok hlen
  have HSR := Lib.hid (fun (y : MsgIt) (W : World) (hb : Below w.heap.size w W) (hy : MsgIn W y) (he : y.msg = x.msg) => (show Calls Tryz.prog 40 #[msgVal y, msgVal x] W fun v w' => v = .returned (.bool true) ∧ Below W.heap.size W w' from by
    have := rMsgSame_any y x W (msgOk_small (by rw [he]; exact hok)) sx hy (hx.inn.kept hb)
    rwa [decide_eq_true he] at this))
  obtain ⟨LX, hLX⟩ : ∃ LX, LX = frameB (msgB x.msg) := ⟨_, rfl⟩
  have hLXl : LX.length ≤ 1073741824 := by rw [hLX, frameB_len]; have := sizeN_le hlen; omega
  rw [← hLX] at HB0 HG0 hpr
  unfold RetOk at HB0
  have HB := Lib.hid HB0
  have HG := Lib.hid HG0
  have HSB0 := fun (W : World) (a b : Option Addr) (ca cb : Nat) (g1 : BytesIn W a LX) (g2 : BytesIn W b LX) => rSameBytes_any a b ca cb LX LX W hLXl hLXl g1 g2
  simp only [decide_true] at HSB0
  have HSB := Lib.hid HSB0
  have HPa0 := fun (W : World) (a : Option Addr) (c : Nat) (hc : LX.length ≤ c) (h : BytesIn W a LX) => MsgParse_any a c LX W hLXl hc h
  unfold RetMsg at HPa0
  rw [hpr] at HPa0
  have HPa := Lib.hid HPa0
  clear HX0 HR0 HP0 HB0 HG0 HSB0 HPa0 hpr h1 hok hx sx hLX hlen
  go_enter Tryz.func7, Tryz.ntmps7
  go_upto_region 1 with fail
  refine wp_name (fun W hW => ?_)
  have hbt : Below w.heap.size w W := by rw [hW.out]; go_grown
  have p0 : W.cell? ⟨w.heap.size, 0, none⟩ = some (.int .i64 x.kind) := by rw [hW.out]; go_simp
  have p1 : W.cell? ⟨w.heap.size, 1, none⟩ = some (.int .i64 x.frm) := by rw [hW.out]; go_simp
  have p2 : W.cell? ⟨w.heap.size, 2, none⟩ = some (.int .i64 x.dst) := by rw [hW.out]; go_simp
  have p3 : W.cell? ⟨w.heap.size, 3, none⟩ = some (.slice x.am x.marks.length x.cm) := by rw [hW.out]; go_simp
  have p4 : W.cell? ⟨w.heap.size, 4, none⟩ = some (.slice x.ae x.evs.length x.ce) := by rw [hW.out]; go_simp
  clear hW
  go_upto_region 6 with (first
    | (go_at_call 33; (with_reducible refine (HX.out _ hbt).mono ?_); rintro v w1 ⟨rfl, hb⟩; replace hbt := below2 hbt hb; replace p0 := kept hb p0; replace p1 := kept hb p1; replace p2 := kept hb p2; replace p3 := kept hb p3; replace p4 := kept hb p4
      )
    | (go_at_call 35; (with_reducible refine (HB.out _ hbt).mono ?_); rintro v w2 ⟨vb, rfl, hown, hb⟩; obtain ⟨ab, cb, rfl, hinb⟩ := own_bytes hown; have hcb := own_cap2 hown; replace hbt := below2 hbt hb; replace p0 := kept hb p0; replace p1 := kept hb p1; replace p2 := kept hb p2; replace p3 := kept hb p3; replace p4 := kept hb p4
      )
    | (go_at_call 36; (with_reducible refine (HR.out _ hbt).mono ?_); rintro v w3 ⟨rfl, hb⟩; replace hinb := hinb.kept hb; replace hbt := below2 hbt hb; replace p0 := kept hb p0; replace p1 := kept hb p1; replace p2 := kept hb p2; replace p3 := kept hb p3; replace p4 := kept hb p4
      ))
  clear hown hb
  go_upto_region 7 with (first
    | (go_at_call 38; (with_reducible refine (HPa.out _ _ _ hcb hinb).mono ?_); rintro v w4 ⟨mi, rfl, hmi, hmin, hb⟩; replace hinb := hinb.kept hb; replace hbt := below2 hbt hb; replace p0 := kept hb p0; replace p1 := kept hb p1; replace p2 := kept hb p2; replace p3 := kept hb p3; replace p4 := kept hb p4
      )
    | (refine wpList_store_new 78 _ _ _ #[.int .i64 mi.kind, .int .i64 mi.frm, .int .i64 mi.dst, .slice mi.am mi.marks.length mi.cm, .slice mi.ae mi.evs.length mi.ce] rfl rfl (by kernel_rfl) rfl (by kernel_rfl) ?_))
  refine wp_name (fun W5 hW5 => ?_)
  have hb5 : Below w4.heap.size w4 W5 := by rw [hW5.out]; exact (Below.refl _ _).alloc (Nat.le_refl _) _
  have r0 : W5.cell? ⟨w4.heap.size, 0, none⟩ = some (.int .i64 mi.kind) := by rw [hW5.out, World.cell?_alloc_new]; rfl
  have r1 : W5.cell? ⟨w4.heap.size, 1, none⟩ = some (.int .i64 mi.frm) := by rw [hW5.out, World.cell?_alloc_new]; rfl
  have r2 : W5.cell? ⟨w4.heap.size, 2, none⟩ = some (.int .i64 mi.dst) := by rw [hW5.out, World.cell?_alloc_new]; rfl
  have r3 : W5.cell? ⟨w4.heap.size, 3, none⟩ = some (.slice mi.am mi.marks.length mi.cm) := by rw [hW5.out, World.cell?_alloc_new]; rfl
  have r4 : W5.cell? ⟨w4.heap.size, 4, none⟩ = some (.slice mi.ae mi.evs.length mi.ce) := by rw [hW5.out, World.cell?_alloc_new]; rfl
  clear hb
  have hb := hb5
  replace hinb := hinb.kept hb
  replace hmin := hmin.kept hb
  replace hbt := below2 hbt hb; replace p0 := kept hb p0; replace p1 := kept hb p1; replace p2 := kept hb p2; replace p3 := kept hb p3; replace p4 := kept hb p4
  have HMI := Lib.hid hmi
  clear hW5 hb5 hb hmi
  go_wp2_with (first
    | (go_at_call 37; (with_reducible refine (HP.out _ hbt).mono ?_); rintro v w6 ⟨rfl, hb⟩; replace hinb := hinb.kept hb; replace hmin := hmin.kept hb; replace r0 := kept hb r0; replace r1 := kept hb r1; replace r2 := kept hb r2; replace r3 := kept hb r3; replace r4 := kept hb r4; replace hbt := below2 hbt hb; replace p0 := kept hb p0; replace p1 := kept hb p1; replace p2 := kept hb p2; replace p3 := kept hb p3; replace p4 := kept hb p4
      )
    | (go_at_call 39; (with_reducible refine (HG.out _ hbt).mono ?_); rintro v w7 ⟨vg, rfl, hown, hb⟩; obtain ⟨ag, cg, rfl, hing⟩ := own_bytes hown; replace hinb := hinb.kept hb; replace hmin := hmin.kept hb; replace r0 := kept hb r0; replace r1 := kept hb r1; replace r2 := kept hb r2; replace r3 := kept hb r3; replace r4 := kept hb r4; replace hbt := below2 hbt hb; replace p0 := kept hb p0; replace p1 := kept hb p1; replace p2 := kept hb p2; replace p3 := kept hb p3; replace p4 := kept hb p4
      )
    | (go_at_call 17; (with_reducible refine (HSB.out _ _ _ _ _ hinb hing).mono ?_); rintro v w8 ⟨rfl, hb⟩; replace hmin := hmin.kept hb; replace r0 := kept hb r0; replace r1 := kept hb r1; replace r2 := kept hb r2; replace r3 := kept hb r3; replace r4 := kept hb r4; replace hbt := below2 hbt hb; replace p0 := kept hb p0; replace p1 := kept hb p1; replace p2 := kept hb p2; replace p3 := kept hb p3; replace p4 := kept hb p4
      )
    | (go_at_call 40; (with_reducible refine (HSR.out mi _ hbt hmin HMI.out).mono ?_); rintro v w9 ⟨rfl, hb⟩; replace hbt := below2 hbt hb; replace p0 := kept hb p0; replace p1 := kept hb p1; replace p2 := kept hb p2; replace p3 := kept hb p3; replace p4 := kept hb p4
      )
    | (go_at_call 34; (with_reducible refine (HA.out _).mono ?_); rintro v w10 ⟨rfl, hb7⟩; replace hbt := below2 hbt hb7))
  go_ret
  exact ⟨rfl, hbt⟩
theorem lawMBytes_any (x : MsgIt) (w : World) (hx : MsgArg w x) :
    Calls Tryz.prog 7 #[msgVal x] w fun v w' => v = .returned (.bool true) ∧ Below w.heap.size w w' := by
  cases h1 : mlight x.msg with
  | false => exact lawMBytes_heavy x w hx h1
  | true =>
    cases hok : msgOk x.msg with
    | true => exact lawMBytes_yes x w hx h1 hok
    | false => exact lawMBytes_no x w hx h1 hok
end Go.Proofs.YtnpdfmpjjomhcaaGreat
