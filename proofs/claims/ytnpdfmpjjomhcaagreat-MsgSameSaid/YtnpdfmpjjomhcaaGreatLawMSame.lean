/- The law MsgSame, walked. Conditions: none. -/
import Derived.Test.YtnpdfmpjjomhcaaGreatMsgP
set_option linter.unusedSimpArgs false
set_option linter.unusedVariables false
set_option linter.unnecessarySimpa false
namespace Go.Proofs.YtnpdfmpjjomhcaaGreat
open Go.RowKit

set_option maxRecDepth 100000 in
set_option maxHeartbeats 4000000 in
theorem lawMSame_heavy (x y : MsgIt) (w : World) (hx : MsgArg w x) (hy : MsgArg w y) (hno : mlight x.msg = false ∨ mlight y.msg = false) :
    Calls Tryz.prog 9 #[msgVal x, msgVal y] w fun v w' => v = .returned (.bool true) ∧ Below w.heap.size w w' := by
  have HA := Lib.hid awake35_any
  have HX0 := fun (W : World) (hb : Below w.heap.size w W) => mlight_any x W (hx.marks.kept hb) (hx.evs.evs.kept hb) hx.evs.len hx.len hx.sizes
  have HY0 := fun (W : World) (hb : Below w.heap.size w W) => mlight_any y W (hy.marks.kept hb) (hy.evs.evs.kept hb) hy.evs.len hy.len hy.sizes
  cases h1 : mlight x.msg with
  | false =>
    rw [h1] at HX0
    have HX := Lib.hid HX0
    have HY : Hid (∀ (W : World), Below w.heap.size w W → Calls Tryz.prog 33 #[msgVal x] W fun v w' => v = .returned (.bool false) ∧ Below W.heap.size W w') := HX0
    clear HX0 HY0 h1 hno hx hy
    go_enter Tryz.func9, Tryz.ntmps9
    go_upto_region 1 with fail
    refine wp_name (fun W hW => ?_)
    have hbt : Below w.heap.size w W := by rw [hW.out]; go_grown
    have p0 : W.cell? ⟨w.heap.size, 0, none⟩ = some (.int .i64 x.kind) := by rw [hW.out]; go_simp
    have p1 : W.cell? ⟨w.heap.size, 1, none⟩ = some (.int .i64 x.frm) := by rw [hW.out]; go_simp
    have p2 : W.cell? ⟨w.heap.size, 2, none⟩ = some (.int .i64 x.dst) := by rw [hW.out]; go_simp
    have p3 : W.cell? ⟨w.heap.size, 3, none⟩ = some (.slice x.am x.marks.length x.cm) := by rw [hW.out]; go_simp
    have p4 : W.cell? ⟨w.heap.size, 4, none⟩ = some (.slice x.ae x.evs.length x.ce) := by rw [hW.out]; go_simp
    have q0 : W.cell? ⟨w.heap.size + 1, 0, none⟩ = some (.int .i64 y.kind) := by rw [hW.out]; go_simp
    have q1 : W.cell? ⟨w.heap.size + 1, 1, none⟩ = some (.int .i64 y.frm) := by rw [hW.out]; go_simp
    have q2 : W.cell? ⟨w.heap.size + 1, 2, none⟩ = some (.int .i64 y.dst) := by rw [hW.out]; go_simp
    have q3 : W.cell? ⟨w.heap.size + 1, 3, none⟩ = some (.slice y.am y.marks.length y.cm) := by rw [hW.out]; go_simp
    have q4 : W.cell? ⟨w.heap.size + 1, 4, none⟩ = some (.slice y.ae y.evs.length y.ce) := by rw [hW.out]; go_simp
    clear hW
    go_wp2_with (first
      | (go_at_call 33; (with_reducible refine (HX.out _ hbt).mono ?_); rintro v w1 ⟨rfl, hb⟩; replace hbt := below2 hbt hb; replace p0 := kept hb p0; replace p1 := kept hb p1; replace p2 := kept hb p2; replace p3 := kept hb p3; replace p4 := kept hb p4; replace q0 := kept hb q0; replace q1 := kept hb q1; replace q2 := kept hb q2; replace q3 := kept hb q3; replace q4 := kept hb q4
        )
      | (go_at_call 34; (with_reducible refine (HA.out _).mono ?_); rintro v w7 ⟨rfl, hb7⟩; replace hbt := below2 hbt hb7))
    go_ret
    exact ⟨rfl, hbt⟩
  | true =>
    have h2 : mlight y.msg = false := by rcases hno with h | h; rw [h1] at h; cases h; exact h
    rw [h1] at HX0
    rw [h2] at HY0
    have HX := Lib.hid HX0
    have HY := Lib.hid HY0
    clear HX0 HY0 h1 h2 hno hx hy
    go_enter Tryz.func9, Tryz.ntmps9
    go_upto_region 1 with fail
    refine wp_name (fun W hW => ?_)
    have hbt : Below w.heap.size w W := by rw [hW.out]; go_grown
    have p0 : W.cell? ⟨w.heap.size, 0, none⟩ = some (.int .i64 x.kind) := by rw [hW.out]; go_simp
    have p1 : W.cell? ⟨w.heap.size, 1, none⟩ = some (.int .i64 x.frm) := by rw [hW.out]; go_simp
    have p2 : W.cell? ⟨w.heap.size, 2, none⟩ = some (.int .i64 x.dst) := by rw [hW.out]; go_simp
    have p3 : W.cell? ⟨w.heap.size, 3, none⟩ = some (.slice x.am x.marks.length x.cm) := by rw [hW.out]; go_simp
    have p4 : W.cell? ⟨w.heap.size, 4, none⟩ = some (.slice x.ae x.evs.length x.ce) := by rw [hW.out]; go_simp
    have q0 : W.cell? ⟨w.heap.size + 1, 0, none⟩ = some (.int .i64 y.kind) := by rw [hW.out]; go_simp
    have q1 : W.cell? ⟨w.heap.size + 1, 1, none⟩ = some (.int .i64 y.frm) := by rw [hW.out]; go_simp
    have q2 : W.cell? ⟨w.heap.size + 1, 2, none⟩ = some (.int .i64 y.dst) := by rw [hW.out]; go_simp
    have q3 : W.cell? ⟨w.heap.size + 1, 3, none⟩ = some (.slice y.am y.marks.length y.cm) := by rw [hW.out]; go_simp
    have q4 : W.cell? ⟨w.heap.size + 1, 4, none⟩ = some (.slice y.ae y.evs.length y.ce) := by rw [hW.out]; go_simp
    clear hW
    go_wp2_with (first
      | (go_at_call 33; (with_reducible refine (HX.out _ hbt).mono ?_); rintro v w1 ⟨rfl, hb⟩; replace hbt := below2 hbt hb; replace p0 := kept hb p0; replace p1 := kept hb p1; replace p2 := kept hb p2; replace p3 := kept hb p3; replace p4 := kept hb p4; replace q0 := kept hb q0; replace q1 := kept hb q1; replace q2 := kept hb q2; replace q3 := kept hb q3; replace q4 := kept hb q4
        )
      | (go_at_call 33; (with_reducible refine (HY.out _ hbt).mono ?_); rintro v w1 ⟨rfl, hb⟩; replace hbt := below2 hbt hb; replace p0 := kept hb p0; replace p1 := kept hb p1; replace p2 := kept hb p2; replace p3 := kept hb p3; replace p4 := kept hb p4; replace q0 := kept hb q0; replace q1 := kept hb q1; replace q2 := kept hb q2; replace q3 := kept hb q3; replace q4 := kept hb q4
        )
      | (go_at_call 34; (with_reducible refine (HA.out _).mono ?_); rintro v w7 ⟨rfl, hb7⟩; replace hbt := below2 hbt hb7))
    go_ret
    exact ⟨rfl, hbt⟩
/-- behind Bytes: the bytes, or the error -/
def RetMB (m : Msg) (w : World) (x : Ending) (w' : World) : Prop :=
  ∃ a c, x = .returned (.tuple #[.slice a (if msgOk m = true then frameB (msgB m) else []).length c, .int .i64 (if msgOk m = true then 0 else 1)]) ∧ BytesIn w' a (if msgOk m = true then frameB (msgB m) else []) ∧ Below w.heap.size w w'
theorem MsgBytes_light (m : MsgIt) (w : World) (hs : MsgSmall m) (h : MsgOld w (fun _ => False) m) (hl : mlight m.msg = true) : Calls Tryz.prog 35 #[msgVal m] w (RetMB m.msg w) := by
  cases hok : msgOk m.msg with
  | true =>
    refine (MsgBytes_yes m w hs h hok (msgB_len hok hl)).mono ?_
    rintro x w' ⟨v, rfl, hown, hb⟩
    obtain ⟨a, c, rfl, hin⟩ := own_bytes hown
    exact ⟨a, c, by rw [hok]; rfl, by rw [hok]; exact hin, hb⟩
  | false =>
    refine (MsgBytes_no m w hs h.inn hok).mono ?_
    rintro x w' ⟨rfl, hb⟩
    exact ⟨none, 0, by rw [hok]; rfl, by rw [hok]; exact Or.inl rfl, hb⟩
theorem msgB_inj {x y : Msg} (hx : msgOk x = true) (hy : msgOk y = true) (lx : mlight x = true) (ly : mlight y = true) : decide (frameB (msgB x) = frameB (msgB y)) = decide (x = y) := by
  rw [Bool.eq_iff_iff, decide_eq_true_eq, decide_eq_true_eq]
  constructor
  · intro h
    have h1 := msgParse_frame hx (msgB_len hx lx)
    have h2 := msgParse_frame hy (msgB_len hy ly)
    rw [h, h2] at h1
    exact (congrArg Prod.fst h1).symm
  · intro h; rw [h]
set_option maxRecDepth 100000 in
set_option maxHeartbeats 8000000 in
theorem lawMSame_light (x y : MsgIt) (w : World) (hx : MsgArg w x) (hy : MsgArg w y) (h1 : mlight x.msg = true) (h2 : mlight y.msg = true) :
    Calls Tryz.prog 9 #[msgVal x, msgVal y] w fun v w' => v = .returned (.bool true) ∧ Below w.heap.size w w' := by
  have HA := Lib.hid awake35_any
  have HX0 := fun (W : World) (hb : Below w.heap.size w W) => mlight_any x W (hx.marks.kept hb) (hx.evs.evs.kept hb) hx.evs.len hx.len hx.sizes
  have HY0 := fun (W : World) (hb : Below w.heap.size w W) => mlight_any y W (hy.marks.kept hb) (hy.evs.evs.kept hb) hy.evs.len hy.len hy.sizes
  rw [h1] at HX0
  rw [h2] at HY0
  have HX := Lib.hid HX0
  have HY := Lib.hid HY0
  have sx := mlight_small h1
  have sy := mlight_small h2
  have HSR0 := fun (W : World) (hb : Below w.heap.size w W) => rMsgSame_any x y W sx sy (hx.inn.kept hb) (hy.inn.kept hb)
  have HSP0 := fun (W : World) (hb : Below w.heap.size w W) => MsgSame_any x y W sx sy (hx.inn.kept hb) (hy.inn.kept hb)
  have HBX0 := fun (W : World) (hb : Below w.heap.size w W) => MsgBytes_light x W sx (hx.olds.later hb (fun _ _ _ e => e)) h1
  have HBY0 := fun (W : World) (hb : Below w.heap.size w W) => MsgBytes_light y W sy (hy.olds.later hb (fun _ _ _ e => e)) h2
  unfold RetMB at HBX0 HBY0
  have hin1 := fun hxo hyo => msgB_inj (x := x.msg) (y := y.msg) hxo hyo h1 h2
  have hlx := fun hxo => msgB_len (m := x.msg) hxo h1
  have hly := fun hyo => msgB_len (m := y.msg) hyo h2
  generalize decide (x.msg = y.msg) = q at HSR0 HSP0 hin1
  have HSR := Lib.hid HSR0
  have HSP := Lib.hid HSP0
  cases hxo : msgOk x.msg with
  | false =>
    rw [hxo] at HBX0
    have HBX : Hid (∀ (W : World), Below w.heap.size w W → Calls Tryz.prog 35 #[msgVal x] W fun v w' => ∃ a c, v = .returned (.tuple #[.slice a 0 c, .int .i64 1]) ∧ BytesIn w' a [] ∧ Below W.heap.size W w') := HBX0
    have HBY := Lib.hid HBY0
    have HSB : Hid True := trivial
    clear HX0 HY0 HSR0 HSP0 HBX0 HBY0 hin1 hlx hly hxo h1 h2 sx sy hx hy
    go_enter Tryz.func9, Tryz.ntmps9
    go_upto_region 1 with fail
    refine wp_name (fun W hW => ?_)
    have hbt : Below w.heap.size w W := by rw [hW.out]; go_grown
    have p0 : W.cell? ⟨w.heap.size, 0, none⟩ = some (.int .i64 x.kind) := by rw [hW.out]; go_simp
    have p1 : W.cell? ⟨w.heap.size, 1, none⟩ = some (.int .i64 x.frm) := by rw [hW.out]; go_simp
    have p2 : W.cell? ⟨w.heap.size, 2, none⟩ = some (.int .i64 x.dst) := by rw [hW.out]; go_simp
    have p3 : W.cell? ⟨w.heap.size, 3, none⟩ = some (.slice x.am x.marks.length x.cm) := by rw [hW.out]; go_simp
    have p4 : W.cell? ⟨w.heap.size, 4, none⟩ = some (.slice x.ae x.evs.length x.ce) := by rw [hW.out]; go_simp
    have q0 : W.cell? ⟨w.heap.size + 1, 0, none⟩ = some (.int .i64 y.kind) := by rw [hW.out]; go_simp
    have q1 : W.cell? ⟨w.heap.size + 1, 1, none⟩ = some (.int .i64 y.frm) := by rw [hW.out]; go_simp
    have q2 : W.cell? ⟨w.heap.size + 1, 2, none⟩ = some (.int .i64 y.dst) := by rw [hW.out]; go_simp
    have q3 : W.cell? ⟨w.heap.size + 1, 3, none⟩ = some (.slice y.am y.marks.length y.cm) := by rw [hW.out]; go_simp
    have q4 : W.cell? ⟨w.heap.size + 1, 4, none⟩ = some (.slice y.ae y.evs.length y.ce) := by rw [hW.out]; go_simp
    clear hW
    go_wp2_with (first
      | (go_at_call 33; (with_reducible refine (HX.out _ hbt).mono ?_); rintro v w1 ⟨rfl, hb⟩; replace hbt := below2 hbt hb; replace p0 := kept hb p0; replace p1 := kept hb p1; replace p2 := kept hb p2; replace p3 := kept hb p3; replace p4 := kept hb p4; replace q0 := kept hb q0; replace q1 := kept hb q1; replace q2 := kept hb q2; replace q3 := kept hb q3; replace q4 := kept hb q4
        )
      | (go_at_call 33; (with_reducible refine (HY.out _ hbt).mono ?_); rintro v w1 ⟨rfl, hb⟩; replace hbt := below2 hbt hb; replace p0 := kept hb p0; replace p1 := kept hb p1; replace p2 := kept hb p2; replace p3 := kept hb p3; replace p4 := kept hb p4; replace q0 := kept hb q0; replace q1 := kept hb q1; replace q2 := kept hb q2; replace q3 := kept hb q3; replace q4 := kept hb q4
        )
      | (go_at_call 40; (with_reducible refine (HSR.out _ hbt).mono ?_); rintro v w1 ⟨rfl, hb⟩; replace hbt := below2 hbt hb; replace p0 := kept hb p0; replace p1 := kept hb p1; replace p2 := kept hb p2; replace p3 := kept hb p3; replace p4 := kept hb p4; replace q0 := kept hb q0; replace q1 := kept hb q1; replace q2 := kept hb q2; replace q3 := kept hb q3; replace q4 := kept hb q4
        )
      | (go_at_call 35; (with_reducible refine (HBX.out _ hbt).mono ?_); rintro v w1 ⟨ax, cx, rfl, hinx, hb⟩; replace hbt := below2 hbt hb; replace p0 := kept hb p0; replace p1 := kept hb p1; replace p2 := kept hb p2; replace p3 := kept hb p3; replace p4 := kept hb p4; replace q0 := kept hb q0; replace q1 := kept hb q1; replace q2 := kept hb q2; replace q3 := kept hb q3; replace q4 := kept hb q4
        )
      | (go_at_call 35; (with_reducible refine (HBY.out _ hbt).mono ?_); rintro v w1 ⟨ay, cy, rfl, hiny, hb⟩; replace hinx := hinx.kept hb; replace hbt := below2 hbt hb; replace p0 := kept hb p0; replace p1 := kept hb p1; replace p2 := kept hb p2; replace p3 := kept hb p3; replace p4 := kept hb p4; replace q0 := kept hb q0; replace q1 := kept hb q1; replace q2 := kept hb q2; replace q3 := kept hb q3; replace q4 := kept hb q4
        )
      | (go_at_call 42; (with_reducible refine (HSP.out _ hbt).mono ?_); rintro v w1 ⟨rfl, hb⟩; (try replace hinx := hinx.kept hb); (try replace hiny := hiny.kept hb); replace hbt := below2 hbt hb; replace p0 := kept hb p0; replace p1 := kept hb p1; replace p2 := kept hb p2; replace p3 := kept hb p3; replace p4 := kept hb p4; replace q0 := kept hb q0; replace q1 := kept hb q1; replace q2 := kept hb q2; replace q3 := kept hb q3; replace q4 := kept hb q4
        )
      | (go_at_call 17; (with_reducible refine (HSB.out _ _ _ _ _ hinx hiny).mono ?_); rintro v w1 ⟨rfl, hb⟩; replace hbt := below2 hbt hb; replace p0 := kept hb p0; replace p1 := kept hb p1; replace p2 := kept hb p2; replace p3 := kept hb p3; replace p4 := kept hb p4; replace q0 := kept hb q0; replace q1 := kept hb q1; replace q2 := kept hb q2; replace q3 := kept hb q3; replace q4 := kept hb q4
        )
      | (go_at_call 34; (with_reducible refine (HA.out _).mono ?_); rintro v w7 ⟨rfl, hb7⟩; replace hbt := below2 hbt hb7))
    all_goals
      go_ret
      exact ⟨rfl, hbt⟩
  | true =>
    rw [hxo] at HBX0
    have hlx1 := hlx hxo
    obtain ⟨LX, hLX⟩ : ∃ LX, LX = frameB (msgB x.msg) := ⟨_, rfl⟩
    have HBX : Hid (∀ (W : World), Below w.heap.size w W → Calls Tryz.prog 35 #[msgVal x] W fun v w' => ∃ a c, v = .returned (.tuple #[.slice a LX.length c, .int .i64 0]) ∧ BytesIn w' a LX ∧ Below W.heap.size W w') := by rw [hLX]; exact HBX0
    have hLXl : LX.length ≤ 1073741824 := by rw [hLX, frameB_len]; have := sizeN_le hlx1; omega
    cases hyo : msgOk y.msg with
    | false =>
      rw [hyo] at HBY0
      have HBY : Hid (∀ (W : World), Below w.heap.size w W → Calls Tryz.prog 35 #[msgVal y] W fun v w' => ∃ a c, v = .returned (.tuple #[.slice a 0 c, .int .i64 1]) ∧ BytesIn w' a [] ∧ Below W.heap.size W w') := HBY0
      have HSB : Hid True := trivial
      clear HX0 HY0 HSR0 HSP0 HBX0 HBY0 hin1 hlx hly hxo hyo h1 h2 sx sy hx hy hLX hlx1
      go_enter Tryz.func9, Tryz.ntmps9
      go_upto_region 1 with fail
      refine wp_name (fun W hW => ?_)
      have hbt : Below w.heap.size w W := by rw [hW.out]; go_grown
      have p0 : W.cell? ⟨w.heap.size, 0, none⟩ = some (.int .i64 x.kind) := by rw [hW.out]; go_simp
      have p1 : W.cell? ⟨w.heap.size, 1, none⟩ = some (.int .i64 x.frm) := by rw [hW.out]; go_simp
      have p2 : W.cell? ⟨w.heap.size, 2, none⟩ = some (.int .i64 x.dst) := by rw [hW.out]; go_simp
      have p3 : W.cell? ⟨w.heap.size, 3, none⟩ = some (.slice x.am x.marks.length x.cm) := by rw [hW.out]; go_simp
      have p4 : W.cell? ⟨w.heap.size, 4, none⟩ = some (.slice x.ae x.evs.length x.ce) := by rw [hW.out]; go_simp
      have q0 : W.cell? ⟨w.heap.size + 1, 0, none⟩ = some (.int .i64 y.kind) := by rw [hW.out]; go_simp
      have q1 : W.cell? ⟨w.heap.size + 1, 1, none⟩ = some (.int .i64 y.frm) := by rw [hW.out]; go_simp
      have q2 : W.cell? ⟨w.heap.size + 1, 2, none⟩ = some (.int .i64 y.dst) := by rw [hW.out]; go_simp
      have q3 : W.cell? ⟨w.heap.size + 1, 3, none⟩ = some (.slice y.am y.marks.length y.cm) := by rw [hW.out]; go_simp
      have q4 : W.cell? ⟨w.heap.size + 1, 4, none⟩ = some (.slice y.ae y.evs.length y.ce) := by rw [hW.out]; go_simp
      clear hW
      go_wp2_with (first
        | (go_at_call 33; (with_reducible refine (HX.out _ hbt).mono ?_); rintro v w1 ⟨rfl, hb⟩; replace hbt := below2 hbt hb; replace p0 := kept hb p0; replace p1 := kept hb p1; replace p2 := kept hb p2; replace p3 := kept hb p3; replace p4 := kept hb p4; replace q0 := kept hb q0; replace q1 := kept hb q1; replace q2 := kept hb q2; replace q3 := kept hb q3; replace q4 := kept hb q4
          )
        | (go_at_call 33; (with_reducible refine (HY.out _ hbt).mono ?_); rintro v w1 ⟨rfl, hb⟩; replace hbt := below2 hbt hb; replace p0 := kept hb p0; replace p1 := kept hb p1; replace p2 := kept hb p2; replace p3 := kept hb p3; replace p4 := kept hb p4; replace q0 := kept hb q0; replace q1 := kept hb q1; replace q2 := kept hb q2; replace q3 := kept hb q3; replace q4 := kept hb q4
          )
        | (go_at_call 40; (with_reducible refine (HSR.out _ hbt).mono ?_); rintro v w1 ⟨rfl, hb⟩; replace hbt := below2 hbt hb; replace p0 := kept hb p0; replace p1 := kept hb p1; replace p2 := kept hb p2; replace p3 := kept hb p3; replace p4 := kept hb p4; replace q0 := kept hb q0; replace q1 := kept hb q1; replace q2 := kept hb q2; replace q3 := kept hb q3; replace q4 := kept hb q4
          )
        | (go_at_call 35; (with_reducible refine (HBX.out _ hbt).mono ?_); rintro v w1 ⟨ax, cx, rfl, hinx, hb⟩; replace hbt := below2 hbt hb; replace p0 := kept hb p0; replace p1 := kept hb p1; replace p2 := kept hb p2; replace p3 := kept hb p3; replace p4 := kept hb p4; replace q0 := kept hb q0; replace q1 := kept hb q1; replace q2 := kept hb q2; replace q3 := kept hb q3; replace q4 := kept hb q4
          )
        | (go_at_call 35; (with_reducible refine (HBY.out _ hbt).mono ?_); rintro v w1 ⟨ay, cy, rfl, hiny, hb⟩; replace hinx := hinx.kept hb; replace hbt := below2 hbt hb; replace p0 := kept hb p0; replace p1 := kept hb p1; replace p2 := kept hb p2; replace p3 := kept hb p3; replace p4 := kept hb p4; replace q0 := kept hb q0; replace q1 := kept hb q1; replace q2 := kept hb q2; replace q3 := kept hb q3; replace q4 := kept hb q4
          )
        | (go_at_call 42; (with_reducible refine (HSP.out _ hbt).mono ?_); rintro v w1 ⟨rfl, hb⟩; (try replace hinx := hinx.kept hb); (try replace hiny := hiny.kept hb); replace hbt := below2 hbt hb; replace p0 := kept hb p0; replace p1 := kept hb p1; replace p2 := kept hb p2; replace p3 := kept hb p3; replace p4 := kept hb p4; replace q0 := kept hb q0; replace q1 := kept hb q1; replace q2 := kept hb q2; replace q3 := kept hb q3; replace q4 := kept hb q4
          )
        | (go_at_call 17; (with_reducible refine (HSB.out _ _ _ _ _ hinx hiny).mono ?_); rintro v w1 ⟨rfl, hb⟩; replace hbt := below2 hbt hb; replace p0 := kept hb p0; replace p1 := kept hb p1; replace p2 := kept hb p2; replace p3 := kept hb p3; replace p4 := kept hb p4; replace q0 := kept hb q0; replace q1 := kept hb q1; replace q2 := kept hb q2; replace q3 := kept hb q3; replace q4 := kept hb q4
          )
        | (go_at_call 34; (with_reducible refine (HA.out _).mono ?_); rintro v w7 ⟨rfl, hb7⟩; replace hbt := below2 hbt hb7))
      all_goals
        go_ret
        exact ⟨rfl, hbt⟩
    | true =>
      rw [hyo] at HBY0
      have hly1 := hly hyo
      obtain ⟨LY, hLY⟩ : ∃ LY, LY = frameB (msgB y.msg) := ⟨_, rfl⟩
      have HBY : Hid (∀ (W : World), Below w.heap.size w W → Calls Tryz.prog 35 #[msgVal y] W fun v w' => ∃ a c, v = .returned (.tuple #[.slice a LY.length c, .int .i64 0]) ∧ BytesIn w' a LY ∧ Below W.heap.size W w') := by rw [hLY]; exact HBY0
      have hLYl : LY.length ≤ 1073741824 := by rw [hLY, frameB_len]; have := sizeN_le hly1; omega
      have hq := hin1 hxo hyo
      rw [← hLX, ← hLY] at hq
      have HSB0 := fun (W : World) (a b : Option Addr) (ca cb : Nat) (g1 : BytesIn W a LX) (g2 : BytesIn W b LY) => rSameBytes_any a b ca cb LX LY W hLXl hLYl g1 g2
      rw [hq] at HSB0
      have HSB := Lib.hid HSB0
      clear HX0 HY0 HSR0 HSP0 HBX0 HBY0 HSB0 hin1 hlx hly hxo hyo h1 h2 sx sy hx hy hLX hLY hlx1 hly1 hq
      go_enter Tryz.func9, Tryz.ntmps9
      go_upto_region 1 with fail
      refine wp_name (fun W hW => ?_)
      have hbt : Below w.heap.size w W := by rw [hW.out]; go_grown
      have p0 : W.cell? ⟨w.heap.size, 0, none⟩ = some (.int .i64 x.kind) := by rw [hW.out]; go_simp
      have p1 : W.cell? ⟨w.heap.size, 1, none⟩ = some (.int .i64 x.frm) := by rw [hW.out]; go_simp
      have p2 : W.cell? ⟨w.heap.size, 2, none⟩ = some (.int .i64 x.dst) := by rw [hW.out]; go_simp
      have p3 : W.cell? ⟨w.heap.size, 3, none⟩ = some (.slice x.am x.marks.length x.cm) := by rw [hW.out]; go_simp
      have p4 : W.cell? ⟨w.heap.size, 4, none⟩ = some (.slice x.ae x.evs.length x.ce) := by rw [hW.out]; go_simp
      have q0 : W.cell? ⟨w.heap.size + 1, 0, none⟩ = some (.int .i64 y.kind) := by rw [hW.out]; go_simp
      have q1 : W.cell? ⟨w.heap.size + 1, 1, none⟩ = some (.int .i64 y.frm) := by rw [hW.out]; go_simp
      have q2 : W.cell? ⟨w.heap.size + 1, 2, none⟩ = some (.int .i64 y.dst) := by rw [hW.out]; go_simp
      have q3 : W.cell? ⟨w.heap.size + 1, 3, none⟩ = some (.slice y.am y.marks.length y.cm) := by rw [hW.out]; go_simp
      have q4 : W.cell? ⟨w.heap.size + 1, 4, none⟩ = some (.slice y.ae y.evs.length y.ce) := by rw [hW.out]; go_simp
      clear hW
      go_wp2_with (first
        | (go_at_call 33; (with_reducible refine (HX.out _ hbt).mono ?_); rintro v w1 ⟨rfl, hb⟩; replace hbt := below2 hbt hb; replace p0 := kept hb p0; replace p1 := kept hb p1; replace p2 := kept hb p2; replace p3 := kept hb p3; replace p4 := kept hb p4; replace q0 := kept hb q0; replace q1 := kept hb q1; replace q2 := kept hb q2; replace q3 := kept hb q3; replace q4 := kept hb q4
          )
        | (go_at_call 33; (with_reducible refine (HY.out _ hbt).mono ?_); rintro v w1 ⟨rfl, hb⟩; replace hbt := below2 hbt hb; replace p0 := kept hb p0; replace p1 := kept hb p1; replace p2 := kept hb p2; replace p3 := kept hb p3; replace p4 := kept hb p4; replace q0 := kept hb q0; replace q1 := kept hb q1; replace q2 := kept hb q2; replace q3 := kept hb q3; replace q4 := kept hb q4
          )
        | (go_at_call 40; (with_reducible refine (HSR.out _ hbt).mono ?_); rintro v w1 ⟨rfl, hb⟩; replace hbt := below2 hbt hb; replace p0 := kept hb p0; replace p1 := kept hb p1; replace p2 := kept hb p2; replace p3 := kept hb p3; replace p4 := kept hb p4; replace q0 := kept hb q0; replace q1 := kept hb q1; replace q2 := kept hb q2; replace q3 := kept hb q3; replace q4 := kept hb q4
          )
        | (go_at_call 35; (with_reducible refine (HBX.out _ hbt).mono ?_); rintro v w1 ⟨ax, cx, rfl, hinx, hb⟩; replace hbt := below2 hbt hb; replace p0 := kept hb p0; replace p1 := kept hb p1; replace p2 := kept hb p2; replace p3 := kept hb p3; replace p4 := kept hb p4; replace q0 := kept hb q0; replace q1 := kept hb q1; replace q2 := kept hb q2; replace q3 := kept hb q3; replace q4 := kept hb q4
          )
        | (go_at_call 35; (with_reducible refine (HBY.out _ hbt).mono ?_); rintro v w1 ⟨ay, cy, rfl, hiny, hb⟩; replace hinx := hinx.kept hb; replace hbt := below2 hbt hb; replace p0 := kept hb p0; replace p1 := kept hb p1; replace p2 := kept hb p2; replace p3 := kept hb p3; replace p4 := kept hb p4; replace q0 := kept hb q0; replace q1 := kept hb q1; replace q2 := kept hb q2; replace q3 := kept hb q3; replace q4 := kept hb q4
          )
        | (go_at_call 42; (with_reducible refine (HSP.out _ hbt).mono ?_); rintro v w1 ⟨rfl, hb⟩; (try replace hinx := hinx.kept hb); (try replace hiny := hiny.kept hb); replace hbt := below2 hbt hb; replace p0 := kept hb p0; replace p1 := kept hb p1; replace p2 := kept hb p2; replace p3 := kept hb p3; replace p4 := kept hb p4; replace q0 := kept hb q0; replace q1 := kept hb q1; replace q2 := kept hb q2; replace q3 := kept hb q3; replace q4 := kept hb q4
          )
        | (go_at_call 17; (with_reducible refine (HSB.out _ _ _ _ _ hinx hiny).mono ?_); rintro v w1 ⟨rfl, hb⟩; replace hbt := below2 hbt hb; replace p0 := kept hb p0; replace p1 := kept hb p1; replace p2 := kept hb p2; replace p3 := kept hb p3; replace p4 := kept hb p4; replace q0 := kept hb q0; replace q1 := kept hb q1; replace q2 := kept hb q2; replace q3 := kept hb q3; replace q4 := kept hb q4
          )
        | (go_at_call 34; (with_reducible refine (HA.out _).mono ?_); rintro v w7 ⟨rfl, hb7⟩; replace hbt := below2 hbt hb7))
      all_goals
        go_ret
        exact ⟨rfl, hbt⟩
theorem lawMSame_any (x y : MsgIt) (w : World) (hx : MsgArg w x) (hy : MsgArg w y) :
    Calls Tryz.prog 9 #[msgVal x, msgVal y] w fun v w' => v = .returned (.bool true) ∧ Below w.heap.size w w' := by
  cases h1 : mlight x.msg with
  | false => exact lawMSame_heavy x y w hx hy (Or.inl h1)
  | true =>
    cases h2 : mlight y.msg with
    | false => exact lawMSame_heavy x y w hx hy (Or.inr h2)
    | true => exact lawMSame_light x y w hx hy h1 h2
end Go.Proofs.YtnpdfmpjjomhcaaGreat
