/- The reference's count of nodes. Conditions: as in the text. -/
import Derived.Test.YtohmadchgacafaaIxT
set_option linter.unusedSimpArgs false
set_option linter.unusedVariables false
set_option linter.unnecessarySimpa false
namespace Go.Proofs.Ytohmadchgacafaa
open Go.RowKit
variable {lo : Nat}
/-- a path of labels as the reference writes it -/
def encB (q : Path) : Bytes := q.foldl (fun s x => 46 :: (x ++ s)) []
theorem encB_snoc (q : Path) (x : Bytes) : encB (q ++ [x]) = 46 :: (x ++ encB q) := by simp [encB]
def DotFree (q : Path) : Prop := ∀ s ∈ q, ∀ c ∈ s, c ≠ 46
theorem split_self : ∀ {x : Bytes}, (∀ c ∈ x, c ≠ 46) → splitB 46 x = [x]
 | [], _ => rfl
 | c :: x, h => by
   rw [splitB, split_self fun d hd => h d (List.mem_cons_of_mem _ hd), if_neg]
   intro e
   exact h c List.mem_cons_self (UInt8.toNat_inj.1 e)
theorem split_dot (x : Bytes) : splitB 46 (46 :: x) = [] :: splitB 46 x := by rw [splitB, if_pos rfl]
theorem split_enc : ∀ (n : Nat) (q : Path), q.length = n → DotFree q → splitB 46 (encB q) = [] :: q.reverse := by
 intro n
 induction n with
 | zero =>
   intro q hq _
   rw [List.length_eq_zero_iff.1 hq]
   rfl
 | succ n ih =>
   intro q hq hd
   rcases List.eq_nil_or_concat q with rfl | ⟨q', x, rfl⟩
   ·cases hq
   ·have hq' : q'.length = n := by simpa using hq
    have hx : ∀ c ∈ x, c ≠ 46 := hd x (by simp)
    have h1 := ih q' hq' fun s hs => hd s (by simp [hs])
    rw [List.concat_eq_append, encB_snoc, split_dot, List.reverse_append]
    rcases List.eq_nil_or_concat q' with rfl | ⟨q2, y, rfl⟩
    ·show [] :: splitB 46 (x ++ []) = _
     rw [List.append_nil, split_self hx]
     rfl
    ·rw [List.concat_eq_append, encB_snoc, split_dot] at h1
     rw [List.concat_eq_append, encB_snoc, split_app, split_self hx, (List.cons.inj h1).2]
     rfl
theorem encB_inj {p q : Path} (hp : DotFree p) (hq : DotFree q) (h : encB p = encB q) : p = q := by
 have h1 := split_enc _ p rfl hp
 rw [h, split_enc _ q rfl hq] at h1
 exact (List.reverse_inj.1 (List.cons.inj h1).2).symm
theorem encB_len (N : Nat) : ∀ (q : Path) (n : Nat), q.length = n → (∀ s ∈ q, s.length ≤ N) → (encB q).length ≤ n * (N + 1) := by
 intro q n
 induction n generalizing q with
 | zero => intro hq _; rw [List.length_eq_zero_iff.1 hq]; exact Nat.zero_le _
 | succ n ih =>
   intro hq hs
   rcases List.eq_nil_or_concat q with rfl | ⟨q', x, rfl⟩
   ·cases hq
   ·have h1 := ih q' (by simpa using hq) fun s h => hs s (by simp [h])
    have h2 := hs x (by simp)
    rw [List.concat_eq_append, encB_snoc, List.length_cons, List.length_append, Nat.add_mul]
    omega
/-- a list of paths, none twice, and what lies in it -/
structure Met (N us : List Path) : Prop where
 nd : us.Nodup
 mem : ∀ q, q ∈ us ↔ q ∈ N
 df : ∀ q ∈ us, DotFree q
theorem Met.nil : Met [] [] := ⟨List.nodup_nil, fun _ => Iff.rfl, fun q hq => (nomatch hq)⟩
theorem Met.keep {N us : List Path} {p : Path} (h : Met N us) (hp : p ∈ us) : Met (N ++ [p]) us :=
 ⟨h.nd, fun q => by
  rw [h.mem, List.mem_append, List.mem_singleton]
  exact ⟨Or.inl, fun g => g.elim id fun e => by rw [e]; exact (h.mem p).1 hp⟩, h.df⟩
theorem Met.add {N us : List Path} {p : Path} (h : Met N us) (hp : p ∉ us) (hd : DotFree p) : Met (N ++ [p]) (us ++ [p]) :=
 ⟨List.nodup_append.2 ⟨h.nd, by simp, fun a ha b hb e => by
  rw [List.mem_singleton.1 hb] at e
  exact hp (e ▸ ha)⟩, fun q => by rw [List.mem_append, List.mem_append, h.mem], fun q hq => by
  rcases List.mem_append.1 hq with hq | hq
  ·exact h.df q hq
  ·rw [List.mem_singleton.1 hq]; exact hd⟩
theorem Met.any {N us : List Path} {p : Path} (h : Met N us) (hd : DotFree p) : (us.any fun u => decide (encB u = encB p)) = decide (p ∈ us) := by
 rw [Bool.eq_iff_iff, List.any_eq_true, decide_eq_true_eq]
 constructor
 ·rintro ⟨u, hu, he⟩
  rw [← encB_inj (h.df u hu) hd (of_decide_eq_true he)]
  exact hu
 ·exact fun hp => ⟨p, hp, decide_eq_true rfl⟩
def upto (L : Path) (m : Nat) : List Path := (List.range m).map fun k => L.take (k + 1)
theorem upto_succ (L : Path) (m : Nat) : upto L (m + 1) = upto L m ++ [L.take (m + 1)] := by unfold upto; rw [List.range_succ, List.map_append]; rfl
theorem nodesP_snoc (l : List It) {j : Nat} (h : j < l.length) : nodesP (l.take (j + 1)) = nodesP (l.take j) ++ upto (labs l[j].key.domain) (labs l[j].key.domain).length := by
 unfold nodesP upto
 rw [List.take_succ_eq_append_getElem h, List.flatMap_append, List.flatMap_cons, List.flatMap_nil, List.append_nil]
theorem exists_nd : ∀ N : List Path, ∃ us : List Path, us.Nodup ∧ ∀ q, q ∈ us ↔ q ∈ N
 | [] => ⟨[], List.nodup_nil, fun _ => Iff.rfl⟩
 | p :: N => by
   obtain ⟨us, h1, h2⟩ := exists_nd N
   by_cases hp : p ∈ us
   ·exact ⟨us, h1, fun q => by rw [h2, List.mem_cons]; exact ⟨Or.inr, fun g => g.elim (fun e => by rw [e]; exact (h2 p).1 hp) id⟩⟩
   ·exact ⟨p :: us, List.nodup_cons.2 ⟨hp, h1⟩, fun q => by rw [List.mem_cons, List.mem_cons, h2]⟩
/-- how many nodes items make -/
noncomputable def cntN (l : List It) : Nat := (Classical.choose (exists_nd (nodesP l))).length
theorem cntN_eq {l : List It} {us : List Path} (h1 : us.Nodup) (h2 : ∀ q, q ∈ us ↔ q ∈ nodesP l) : us.length = cntN l := by
 have hc := Classical.choose_spec (exists_nd (nodesP l))
 exact ((List.perm_ext_iff_of_nodup h1 hc.1).2 fun q => by rw [h2, hc.2]).length_eq
theorem nodes_c {w : World} {x : Nat} {S : List It} {K : Nat} (h : IxAt lo w x S K) (hg : Good S) (hK : K ≤ 536870912) : Calls Try.prog 23 #[ndVal x] w fun e w' => e = .returned (.int .i64 (cntN S)) ∧ Below w.heap.size w w' := by
 have hc := Classical.choose_spec (exists_nd (nodesP S))
 exact nodes_s h hg hK _ hc.1 hc.2
theorem cat_str (x y : Bytes) : (({ data := #[46] } : ByteArray) ++ mkS x) ++ mkS y = mkS (46 :: (x ++ y)) := by
 unfold mkS
 rw [show ({ data := #[46] } : ByteArray) = ⟨([46] : List UInt8).toArray⟩ from rfl, ByteArray.mk_append_mk, ByteArray.mk_append_mk]
 rfl
set_option maxRecDepth 100000 in
set_option maxHeartbeats 4000000 in
theorem rNodes45_any (a : Option Addr) (cap : Nat) (l : List It) (w : World) (hl : l.length ≤ 1000) (hd : ∀ y ∈ l, y.key.domain.size ≤ 300) (hin : ItsIn w a l) :
 Calls Try.prog 36 #[.slice a l.length cap] w fun e w' => e = .returned (.int .i64 (cntN l)) ∧ Below w.heap.size w w' := by
 obtain ⟨i0, hi, hz0, hz1, hz2⟩ := info_parts Try.infoStr
 have HSP := Lib.hid (fun (s : ByteArray) (X : World) (hs : s.size ≤ 300) => rSplit_any s 46 X (by omega))
 have HD := Lib.hid hd
 clear hd
 go_enter Try.func36, Try.ntmps36
 go_wp2
 go_loopw [3, 4] (fun v i wr => ∃ (j : Nat) (us : List Path), i = .int .i64 j ∧ j ≤ l.length ∧ Met (nodesP (l.take j)) us ∧ us.length ≤ j * 301 ∧ wr.ownsRow w.heap.size 9 1 v us.length (strVals (us.map encB)) ∧ Below w.heap.size w wr) (fun _ i _ => l.length - (intOf i).toNat)
 case atStart => exact ⟨0, [], rfl, Nat.zero_le _, Met.nil, Nat.zero_le _, World.ownsRow_made _ _ _ (Nat.le_refl _) (by decide) rfl, (Below.refl _ _).alloc (Nat.le_refl _) _⟩
 case round =>
  obtain ⟨j, us0, rfl, hj, hmet0, hul0, hown0, hb0⟩ := hrel
  by_cases hlt : j < l.length
  ·obtain ⟨A, off, rfl, hr⟩ := ItsIn.at (hin.kept hb0) hlt
   have HNS := Lib.hid (nodesP_snoc l hlt)
   have hds := HD.out _ (List.getElem_mem hlt)
   have HLT := Lib.hid hlt
   have hlti : decide (j < l.length) = true := decide_eq_true hlt
   have c1 := (range_key hr).2.1
   clear hr
   generalize l[j] = y at *
   generalize y.key.domain = d at *
   have HM := Lib.hid (And.intro hmet0 hul0)
   obtain ⟨N, hN⟩ : ∃ N, N = nodesP (l.take j) := ⟨_, rfl⟩
   rw [← hN] at HM HNS
   clear hmet0 hul0 hN
   have hbt0 := hown0.lt
   have hzb := hb0.size
   have hll := labs_length d
   have hls := labs_sizes d
   have hldf : DotFree (labs d) := labs_nodot d
   have hlr : splitB 46 (bl d) = (labs d).reverse := by unfold labs; rw [List.reverse_reverse]
   have HSD := HSP.out d wr hds
   rw [hlr] at HSD
   have HSD2 := Lib.hid HSD
   clear HSD hlr
   generalize labs d = L at *
   have HLF := Lib.hid (And.intro hls hldf)
   clear hls hldf
   have hL301 : L.length ≤ 301 := by omega
   have hLr : L.reverse.length = L.length := List.length_reverse
   have hwi : IntKind.i64.wrap ((L.length : Int) - 1) = (L.length : Int) - 1 := IntWalk.i64_in _ (by omega)
   clear hll
   go_upto_region 6 with (go_at_call 50; (refine HSD2.out.mono ?_); rintro e w5 ⟨v5, rfl, hown5, hb5⟩)
   have hne5 : ∀ q, Value.ownBlock _ = some q → v5.ownBlock ≠ some q := fun q hq e => by
        have h1 := (hbt0 q hq).2
        have h2 := (hown5.lt q e).1
        omega
   have hown1 := ownsRow_below hown0 hb5
   have hown6 := own_low hown5 hzb
   have HB1 := Lib.hid (hb0.trans (hb5.mono hzb))
   rw [hLr] at hown6
   obtain ⟨a5, c5, rfl, hin5, _⟩ := own_cellsIn hown6
   clear hown0 hown5 hb5 hb0 hbt0 c1 hin5
   go_wp2
   go_loopw [3, 6, 7] (fun v s k wr => ∃ (m r : Nat) (us : List Path) (z : Int), m + r = L.length ∧ z = (r : Int) - 1 ∧ k = .int .i64 z ∧ s = .string (mkS (encB (L.take m))) ∧ Met (N ++ upto L m) us ∧ us.length ≤ j * 301 + m ∧ wr.ownsRow w.heap.size 9 1 v us.length (strVals (us.map encB)) ∧ wr.ownsRow w.heap.size 9 1 (.slice a5 L.length c5) L.length (strVals L.reverse) ∧ (∀ q, v.ownBlock = some q → (Value.slice a5 L.length c5).ownBlock ≠ some q) ∧ Below w.heap.size w wr) (fun _ _ k _ => (intOf k + 1).toNat)
   case atStart => exact ⟨0, L.length, us0, _, Nat.zero_add _, rfl, rfl, rfl, by unfold upto; simpa using HM.out.1, HM.out.2, hown1, hown6, hne5, HB1.out⟩
   case round =>
        obtain ⟨m, r, us, z, hmr, hz, rfl, rfl, hmet, hul, hownM, hownW, hne, hb⟩ := hrel
        rcases Nat.eq_zero_or_pos r with hr0 | hr0
        ·subst hr0
         obtain rfl : m = L.length := by omega
         have hz1 : z = -1 := by omega
         subst hz1
         have HZ2 : Hid (Met (nodesP (l.take (j + 1))) us ∧ us.length ≤ (j + 1) * 301) := Lib.hid ⟨by rw [HNS.out]; exact hmet, by omega⟩
         have HO := Lib.hid (And.intro hownM hb)
         clear hmet hul hownM hownW hne hb hz
         go_wp2
         go_roundw
         case rel => exact ⟨j + 1, us, by go_num, HLT.out, HZ2.out.1, HZ2.out.2, HO.out.1, HO.out.2⟩
         case measure => have := HLT.out; simp [intOf]; omega
        ·obtain ⟨t, rfl⟩ : ∃ t, r = t + 1 := ⟨r - 1, by omega⟩
         obtain rfl : z = (t : Int) := by omega
         clear hz hr0
         have htl : t < L.reverse.length := by omega
         have hmL : m < L.length := by omega
         have htk : L.take (m + 1) = L.take m ++ [L.reverse[t]] := by
          rw [List.take_succ_eq_append_getElem hmL, List.getElem_reverse]
          congr 3
          omega
         have hsz1 : L.reverse[t].length ≤ 300 := Nat.le_trans (HLF.out.1 _ (List.mem_reverse.1 (List.getElem_mem htl))) hds
         have hsz2 : (encB (L.take m)).length ≤ 90601 := Nat.le_trans (encB_len 300 (L.take m) m (by rw [List.length_take]; omega) fun s hs => Nat.le_trans (HLF.out.1 s (List.mem_of_mem_take hs)) hds) (by omega)
         obtain ⟨g5, q5, he5, hc5⟩ := strs_open (L := L.reverse) (by rw [hLr]; exact hownW) (by intro e; rw [e] at htl; exact Nat.not_lt_zero _ htl)
         have hcell := hc5 t htl
         rw [hLr] at he5
         obtain ⟨rfl, rfl⟩ : a5 = some ⟨g5, 0, none⟩ ∧ c5 = q5 := by cases he5; exact ⟨rfl, rfl⟩
         clear hc5 he5
         have hDF : DotFree (L.take (m + 1)) := fun s hs => HLF.out.2 s (List.mem_of_mem_take hs)
         have hsn := encB_snoc (L.take m) L.reverse[t]
         rw [← htk] at hsn
         have hcat := cat_str L.reverse[t] (encB (L.take m))
         rw [← hsn] at hcat
         have HUP := Lib.hid (upto_succ L m)
         generalize L.reverse[t] = lab at *
         obtain ⟨p, hp⟩ : ∃ p, p = L.take (m + 1) := ⟨_, rfl⟩
         rw [← hp] at hDF hcat HUP
         have hany := hmet.any hDF
         have HDF := Lib.hid hDF
         have HMT := Lib.hid (And.intro hmet hul)
         obtain ⟨sw, hsw⟩ : ∃ sw, sw = mkS lab := ⟨_, rfl⟩
         obtain ⟨se, hse⟩ : ∃ se, se = mkS (encB (L.take m)) := ⟨_, rfl⟩
         have hq1 : sw.size ≤ 300 := by rw [hsw]; exact hsz1
         have hq2 : se.size ≤ 90601 := by rw [hse]; exact hsz2
         rw [← hsw] at hcell hcat
         rw [← hse] at hcat ⊢
         have HSE := Lib.hid hse
         have HP := Lib.hid hp
         clear hsw hse hp htk hsn hsz1 hsz2 hDF hmet hul
         have hcc1 : ¬ (({ data := #[46] } : ByteArray).size + sw.size > 9223372036854775807) := by
          have : ({ data := #[46] } : ByteArray).size = 1 := rfl
          omega
         have hcc2 : ¬ ((({ data := #[46] } : ByteArray) ++ sw).size + se.size > 9223372036854775807) := by
          rw [ByteArray.size_append]
          have : ({ data := #[46] } : ByteArray).size = 1 := rfl
          omega
         have hgt : decide ((t : Int) ≥ 0) = true := decide_eq_true (by omega)
         have htlL : t < L.length := by omega
         go_upto_region 11 with fail
         clear hcat hcc1 hcc2 hcell hq1 hq2 hgt htlL
         generalize hee : encB p = eb at *
         have HEE := Lib.hid hee
         clear hee
         obtain ⟨wo, hwo⟩ : ∃ wo : World, wo = wr := ⟨_, rfl⟩
         rw [← hwo] at hownM hownW hb ⊢
         clear hwo
         obtain ⟨aM, cM, rfl, _, _⟩ := own_cellsIn hownM
         have HOM := Lib.hid hownM
         have HOW := Lib.hid hownW
         have HNE := Lib.hid hne
         have HB := Lib.hid hb
         have hulen : us.length ≤ 302000 := by have := HMT.out.2; omega
         have HANY := Lib.hid hany
         have hzo := hb.size
         clear hownM hownW hne hb hany
         go_wp2
         go_loopw [8, 9] (fun b i wq => ∃ n : Nat, i = .int .i64 n ∧ n ≤ us.length ∧ b = .bool ((us.take n).any fun u => decide (encB u = eb)) ∧ Below wo.heap.size wo wq) (fun _ i _ => us.length - (intOf i).toNat)
         case atStart => exact ⟨0, rfl, Nat.zero_le _, rfl, Below.refl _ _⟩
         case round =>
          obtain ⟨n, rfl, hn, rfl, hbq⟩ := hrel
          by_cases hnl : n < us.length
          ·have hmn : n < (us.map encB).length := by rw [List.length_map]; exact hnl
           obtain ⟨gM, qM, heM, hcM⟩ := strs_open (L := us.map encB) (by rw [List.length_map]; exact ownsRow_below HOM.out hbq) (by intro e; rw [e] at hmn; exact Nat.not_lt_zero _ hmn)
           have hcn := hcM n hmn
           rw [List.length_map] at heM
           obtain rfl : aM = some ⟨gM, 0, none⟩ := by cases heM; rfl
           rw [List.getElem_map] at hcn
           have HA : Hid ((us.take (n + 1)).any (fun u => decide (encB u = eb)) = ((us.take n).any (fun u => decide (encB u = eb)) || decide (encB us[n] = eb))) := by
            unfold Hid
            rw [List.take_succ_eq_append_getElem hnl, List.any_append, List.any_cons, List.any_nil, Bool.or_false]
           have hsb := str_beq (mkS (encB us[n])) (mkS eb)
           rw [bl_mkS, bl_mkS] at hsb
           generalize encB us[n] = en at *
           have HNL := Lib.hid hnl
           have HBQ := Lib.hid hbq
           have hnli : decide ((n : Int) < (us.length : Int)) = true := decide_eq_true (by omega)
           clear hcM heM hmn hbq
           generalize (us.take n).any (fun u => decide (encB u = eb)) = tb at *
           by_cases he : en = eb
           ·rw [decide_eq_true he] at hsb
            rw [decide_eq_true he, Bool.or_true] at HA
            clear he
            cases tb with
            | true =>
              clear hsb hcn
              go_wp2
              go_roundw
              case rel => exact ⟨n + 1, by go_num, HNL.out, by rw [HA.out], HBQ.out⟩
              case measure => have := HNL.out; simp [intOf]; omega
            | false =>
              go_wp2
              go_roundw
              case rel => exact ⟨n + 1, by go_num, HNL.out, by rw [HA.out], HBQ.out⟩
              case measure => have := HNL.out; simp [intOf]; omega
           ·rw [decide_eq_false he] at hsb
            rw [decide_eq_false he, Bool.or_false] at HA
            clear he
            cases tb with
            | true =>
              clear hsb hcn
              go_wp2
              go_roundw
              case rel => exact ⟨n + 1, by go_num, HNL.out, by rw [HA.out], HBQ.out⟩
              case measure => have := HNL.out; simp [intOf]; omega
            | false =>
              go_wp2
              go_roundw
              case rel => exact ⟨n + 1, by go_num, HNL.out, by rw [HA.out], HBQ.out⟩
              case measure => have := HNL.out; simp [intOf]; omega
          ·obtain rfl : n = us.length := by omega
           have hnli : decide ((us.length : Int) < (us.length : Int)) = false := decide_eq_false (by omega)
           rw [List.take_length]
           have ha := HANY.out
           have hoM := ownsRow_below HOM.out hbq
           have hoW := ownsRow_below HOW.out hbq
           have hbB := HB.out.trans (hbq.mono hzo)
           by_cases hpu : p ∈ us
           ·rw [decide_eq_true hpu] at ha
            rw [ha]
            have HMK : Hid (Met (N ++ upto L (m + 1)) us) := by
                 unfold Hid
                 rw [HUP.out, ← List.append_assoc]
                 exact HMT.out.1.keep hpu
            have HZ := Lib.hid (And.intro (And.intro hoM hoW) hbB)
            clear ha hpu hoM hoW hbB hbq hnl
            go_wp2
            go_roundw
            case rel => exact ⟨m + 1, t, us, _, by omega, rfl, by go_num, by rw [← HEE.out, HP.out], HMK.out, by have := HMT.out.2; omega, HZ.out.1.1, HZ.out.1.2, HNE.out, HZ.out.2⟩
            case measure => simp [intOf] <;> omega
           ·rw [decide_eq_false hpu] at ha
            rw [ha]
            have HMK : Hid (Met (N ++ upto L (m + 1)) (us ++ [p])) := by
                 unfold Hid
                 rw [HUP.out, ← List.append_assoc]
                 exact HMT.out.1.add hpu HDF.out
            clear ha hpu hnl
            have hzz := hbB.size
            go_wp2_with (at_builtin; go_loud (refine wpList_append_own_at _ rfl _ _ 60 rfl w.heap.size 9 i0 (.string ByteArray.empty) 1 16 Try.underlying60 hi hz0 hz1 hz2 rfl (by decide) _ _ _ rfl (hoM.alloc _) ⟨wr.heap.size, 0, none⟩ 1 1 [.string (mkS eb)] rfl rfl ?c1 ?c2 ?c3 ?c4 ?c5 ?_))
            case c1 => exact cell_one_new _ _ _
            case c2 => simp [Value.oneCell']
            case c3 => unfold maxLen; omega
            case c4 => omega
            case c5 => simp; omega
            intro v' wf hownf hgrow _ hbk
            have hal : Below wr.heap.size wr (wr.alloc (Obj.cells #[.string (mkS eb)] 9)) := (Below.refl _ _).alloc (Nat.le_refl _) _
            have hbF := (hbB.trans (hal.mono hzz)).grown hgrow (by have := hal.size; omega) (fun q hq => (hoM.lt q hq).1)
            have hlW := hoW.lt
            have hne2 : ∀ q, v'.ownBlock = some q → (Value.slice (some ⟨g5, 0, none⟩) L.length c5).ownBlock ≠ some q := fun q hq e => by
                 rcases hbk with hbk | hbk
                 ·rw [hbk] at hq; exact HNE.out q hq e
                 ·rw [hbk] at hq
                  cases hq
                  have h7 := (hlW _ e).2
                  have h8 := hal.size
                  omega
            have hoW3 := own_grown (ownsRow_below hoW hal) hgrow (fun q hq e => HNE.out q e hq)
            have HZ := Lib.hid (And.intro (And.intro hownf hoW3) (And.intro hne2 hbF))
            clear hgrow hbk hal hlW hownf hoW3 hne2 hbF hoM hoW hbB hbq hzz
            go_wp2
            go_roundw
            case rel => exact ⟨m + 1, t, us ++ [p], _, by omega, rfl, by go_num, by rw [← HEE.out, HP.out], HMK.out, by have := HMT.out.2; simp; omega, by have h9 := HZ.out.1.1; rw [← HEE.out] at h9; simpa [strVals] using h9, HZ.out.1.2, HZ.out.2.1, HZ.out.2.2⟩
            case measure => simp [intOf] <;> omega
  ·obtain rfl : j = l.length := by omega
   have hlti : decide (l.length < l.length) = false := decide_eq_false hlt
   rw [List.take_length] at hmet0
   have HE := Lib.hid (cntN_eq hmet0.nd hmet0.mem)
   obtain ⟨aM, cM, rfl, _, _⟩ := own_cellsIn hown0
   have HZ := Lib.hid hb0
   clear hmet0 hb0 hown0
   go_wp2
   all_goals
        go_ret
        exact ⟨by rw [HE.out]; rfl, HZ.out⟩
end Go.Proofs.Ytohmadchgacafaa
