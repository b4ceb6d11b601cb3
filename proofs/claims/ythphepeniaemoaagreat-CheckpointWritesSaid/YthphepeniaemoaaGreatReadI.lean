/- An event, read: event.Get. Conditions: at most 2^30 bytes. -/
import Derived.Test.YthphepeniaemoaaGreatRead
import Derived.Deep.RegionLaw
set_option linter.unusedSimpArgs false
set_option linter.unusedVariables false
set_option linter.unnecessarySimpa false
set_option maxHeartbeats 16000000
set_option maxRecDepth 100000
open Go.Proofs.Tryz
namespace Go.Proofs.YthphepeniaemoaaGreat
open Go.RowKit
theorem y35 {p q : Prop} (k : q) (h : PLift q -> p := by
 intro kk
 refine ed 2 82 82 w.heap.size #[.int .i64 0, .int .i64 0, .int .i64 0, .int .i64 0, .int .i64 0, .int .i64 0, .int .i64 0, .string ⟨#[]⟩, .string ⟨#[]⟩, .string ⟨#[]⟩, .string ⟨#[]⟩, .bool false, .bool false, .bool false, .bool false, .int .i64 0, .int .i64 0, .int .i64 0, .slice none 0 0] _ rfl rfl (setRow_heap _ _ _ _ _ _ hZ) underlying82 rfl (by kernel_rfl) rfl ?_
 rw [HE.out]
 exact kk.down) : p := h ⟨k⟩
theorem z23 {p : Prop} (h : p := by
 have HE := aq (MC HX.out hxe)
 clear iM hxe
 go_wp2_with (first
     | (go_at_call 134; (with_reducible refine (HEr.out _ _ hR).mono ?_); rintro x w3 ⟨rfl, rfl⟩)
     | (refine Great.wpList_buildTo rfl 82 _ rfl _ rfl #[.int .i64 0, .int .i64 0, .int .i64 0, .int .i64 0, .int .i64 0, .int .i64 0, .int .i64 0, .string ⟨#[]⟩, .string ⟨#[]⟩, .string ⟨#[]⟩, .string ⟨#[]⟩, .bool false, .bool false, .bool false, .bool false, .int .i64 0, .int .i64 0, .int .i64 0, .slice none 0 0] (by kernel_rfl) ?_)
     | (refine wpList_store_row rfl 82 _ _ rfl w.heap.size #[.int .i64 0, .int .i64 0, .int .i64 0, .int .i64 0, .int .i64 0, .int .i64 0, .int .i64 0, .string ⟨#[]⟩, .string ⟨#[]⟩, .string ⟨#[]⟩, .string ⟨#[]⟩, .bool false, .bool false, .bool false, .bool false, .int .i64 0, .int .i64 0, .int .i64 0, .slice none 0 0] rfl rfl 82 (az ev0 none 0).toArray hZ (by kernel_rfl) rfl (by kernel_rfl) ?_))
 refine y35 ?_
 exact ⟨none, 0, rfl, bb rfl, hR.setRow (by omega), hF.setRow (bb (ar _)) _, fun A off h => by cases h⟩) : p := h
theorem y83 {p q : Prop} (k : q) (h : PLift q -> p := by
 intro kk
 have hq1 : (ro.e == 0) = true := beq_iff_eq.2 hxe
 have hq2 : (ro.e != 0) = false := by rw [bne_eq_false_iff_eq]; exact hxe
 revert hq1 hq2
 exact kk.down) : p := h ⟨k⟩
theorem z6 {p : Prop} (h : p := by
 refine y83 ?_
 intro hq1 hq2
 cases hok : dm (⟨d, s, 2, eQ, ⟨ByteArray.empty, b1, b2, b3, b4, 0, 0, 0⟩, l⟩ : Ev) with
 | true =>
   have HE := aq (AU HX.out hxe hok)
   rw [hok] at iM
   have HRt := aq iM
   clear iM hok hxe
   go_wp2_with (first
      | (go_at_call 134; (with_reducible refine (HEr.out _ _ hR).mono ?_); rintro x w3 ⟨rfl, rfl⟩)
      | ((with_reducible refine bf _ (w.heap.size + 1) (⟨d, s, 2, eQ, ⟨ByteArray.empty, b1, b2, b3, b4, 0, 0, 0⟩, l⟩ : Ev) ad cap hE.cell ?_ rfl ?_); exact rfl)
      | (go_at_call 52; (with_reducible refine (HRt.out _ hd).mono ?_); rintro x w4 ⟨rfl, hb⟩; replace hZ := hZ.below hb; replace hE := hE.below hb; replace hR := hR.below hb; replace hd := hd.kept hb; replace hF := hF.again (Fr.of_below hb))
      | (refine wpList_store_row rfl 82 _ _ rfl w.heap.size (az (⟨d, s, 2, eQ, ⟨ByteArray.empty, b1, b2, b3, b4, 0, 0, 0⟩, l⟩ : Ev) ad cap).toArray rfl rfl 82 (az ev0 none 0).toArray hZ (by kernel_rfl) rfl (by kernel_rfl) ?_))
   refine ed 2 82 82 w.heap.size (az (⟨d, s, 2, eQ, ⟨ByteArray.empty, b1, b2, b3, b4, 0, 0, 0⟩, l⟩ : Ev) ad cap).toArray _ rfl rfl (setRow_heap _ _ _ _ _ _ hZ) underlying82 rfl (by kernel_rfl) rfl ?_
   rw [HE.out]
   exact ⟨ad, cap, rfl, hd.setRow _ (fun A off h => by have := hdz A off h; omega), hR.setRow (by omega), hF.setRow (bb (ar _)) _, fun A off h => by have := hdz A off h; omega⟩
 | false =>
   have HE := aq (wU HX.out hxe hok)
   have HFF : Hid (gY ro 1 = ⟨ro.b, 1⟩) := by unfold Hid gY; rw [if_pos hxe]
   have HFl := aq (fun (W : World) (h : RdAt W R ro) => vW R ro 1 W h)
   rw [hok] at iM
   have HRt := aq iM
   clear iM hok hxe
   go_wp2_with (first
      | (go_at_call 134; (with_reducible refine (HEr.out _ _ hR).mono ?_); rintro x w3 ⟨rfl, rfl⟩)
      | ((with_reducible refine bf _ (w.heap.size + 1) (⟨d, s, 2, eQ, ⟨ByteArray.empty, b1, b2, b3, b4, 0, 0, 0⟩, l⟩ : Ev) ad cap hE.cell ?_ rfl ?_); exact rfl)
      | (go_at_call 52; (with_reducible refine (HRt.out _ hd).mono ?_); rintro x w4 ⟨rfl, hb⟩; replace hZ := hZ.below hb; replace hE := hE.below hb; replace hR := hR.below hb; replace hd := hd.kept hb; replace hF := hF.again (Fr.of_below hb))
      | (go_at_call 176; (with_reducible refine (HFl.out _ hR).mono ?_); rintro x w5 ⟨rfl, hR, hF1⟩; rw [HFF.out] at hR; replace hZ := hZ.fr hF1 (by omega); replace hF := hF.again hF1)
      | (refine Great.wpList_buildTo rfl 82 _ rfl _ rfl #[.int .i64 0, .int .i64 0, .int .i64 0, .int .i64 0, .int .i64 0, .int .i64 0, .int .i64 0, .string ⟨#[]⟩, .string ⟨#[]⟩, .string ⟨#[]⟩, .string ⟨#[]⟩, .bool false, .bool false, .bool false, .bool false, .int .i64 0, .int .i64 0, .int .i64 0, .slice none 0 0] (by kernel_rfl) ?_)
      | (refine wpList_store_row rfl 82 _ _ rfl w.heap.size #[.int .i64 0, .int .i64 0, .int .i64 0, .int .i64 0, .int .i64 0, .int .i64 0, .int .i64 0, .string ⟨#[]⟩, .string ⟨#[]⟩, .string ⟨#[]⟩, .string ⟨#[]⟩, .bool false, .bool false, .bool false, .bool false, .int .i64 0, .int .i64 0, .int .i64 0, .slice none 0 0] rfl rfl 82 (az ev0 none 0).toArray hZ (by kernel_rfl) rfl (by kernel_rfl) ?_))
   refine ed 2 82 82 w.heap.size #[.int .i64 0, .int .i64 0, .int .i64 0, .int .i64 0, .int .i64 0, .int .i64 0, .int .i64 0, .string ⟨#[]⟩, .string ⟨#[]⟩, .string ⟨#[]⟩, .string ⟨#[]⟩, .bool false, .bool false, .bool false, .bool false, .int .i64 0, .int .i64 0, .int .i64 0, .slice none 0 0] _ rfl rfl (setRow_heap _ _ _ _ _ _ hZ) underlying82 rfl (by kernel_rfl) rfl ?_
   rw [HE.out]
   exact ⟨none, 0, rfl, bb rfl, hR.setRow (by omega), hF.setRow (bb (ar _)) _, fun A off h => by cases h⟩) : p := h
theorem z4 {p : Prop} (h : p := by
 have HE := aq (MC HX.out hxe)
 clear iM hxe
 go_wp2_with (first
  | (go_at_call 134; (with_reducible refine (HEr.out _ _ hR).mono ?_); rintro x w3 ⟨rfl, rfl⟩)
  | (refine Great.wpList_buildTo rfl 82 _ rfl _ rfl #[.int .i64 0, .int .i64 0, .int .i64 0, .int .i64 0, .int .i64 0, .int .i64 0, .int .i64 0, .string ⟨#[]⟩, .string ⟨#[]⟩, .string ⟨#[]⟩, .string ⟨#[]⟩, .bool false, .bool false, .bool false, .bool false, .int .i64 0, .int .i64 0, .int .i64 0, .slice none 0 0] (by kernel_rfl) ?_)
  | (refine wpList_store_row rfl 82 _ _ rfl w.heap.size #[.int .i64 0, .int .i64 0, .int .i64 0, .int .i64 0, .int .i64 0, .int .i64 0, .int .i64 0, .string ⟨#[]⟩, .string ⟨#[]⟩, .string ⟨#[]⟩, .string ⟨#[]⟩, .bool false, .bool false, .bool false, .bool false, .int .i64 0, .int .i64 0, .int .i64 0, .slice none 0 0] rfl rfl 82 (az ev0 none 0).toArray hZ (by kernel_rfl) rfl (by kernel_rfl) ?_))
 refine y35 ?_
 exact ⟨none, 0, rfl, bb rfl, hR.setRow (by omega), hF.setRow (bb (ar _)) _, fun A off h => by cases h⟩) : p := h
theorem z109 {p : Prop} (h : p := by
 rcases hd6 with h0 | ⟨A', off', h', hd'⟩
 ·exact absurd h0 hne
 ·rw [h] at h'; cases h'; exact World.block_lt_of_cell? WY _ (hd'.dev 0 (List.length_pos_iff.2 hne))) : p := h
theorem z101 {p : Prop} (h : p := by
 rcases UN with h | ⟨B, h1, h2, h3, h4⟩
 ·exact bb h
 ·exact bd ⟨B, h1, fun j hj => hF5.kept (h2 j hj) (by rintro (h | h) <;> simp only at h <;> omega), h3, Nat.lt_of_lt_of_le h4 hF5.size⟩) : p := h
theorem z86 {p : Prop} (h : p := by
 have hq1 : (ro.e == 0) = false := beq_eq_false_iff_ne.2 hxe
 have hq2 : (ro.e != 0) = true := by rw [bne_iff_ne]; exact hxe
 exact z4) : p := h
theorem z144 {p : Prop} (h : p := by
 rcases KJ with h | ⟨B, h1, h2, h3, _⟩
 ·exact absurd h.1 hne
 ·rw [hf5] at h1 h2; exact ⟨B, h1, h2, h3⟩) : p := h
theorem y47 {p q : Prop} (k : q) (h : PLift q -> p := by
 intro kk
 have hF : Fr (isR R) w wr := Cf hF0 hF5 (by omega)
 have hs := (⟨Nat.zero_le _, Nat.zero_le _, Nat.zero_le _, Nat.zero_le _, by simp only; omega⟩ : EvSmall ⟨d, s, 2, eQ, ck0, l⟩)
 have iM := fun (W : World) (h : DotsIn W ad (⟨d, s, 2, eQ, ck0, l⟩ : Ev).over) => fQ (⟨d, s, 2, eQ, ck0, l⟩ : Ev) ad cap W hs h
 revert hF hs iM
 exact kk.down) : p := h ⟨k⟩
theorem y7 {p q : Prop} (k : q) (h : PLift q -> p := by
 intro kk
 have hE4 : EvBlk ((((wr.setCell ⟨w.heap.size + 1, 11, none⟩ (.bool b1)).setCell ⟨w.heap.size + 1, 12, none⟩ (.bool b2)).setCell ⟨w.heap.size + 1, 13, none⟩ (.bool b3)).setCell ⟨w.heap.size + 1, 14, none⟩ (.bool b4)).drew (w.heap.size + 1) (⟨d, s, 2, eQ, ⟨ByteArray.empty, b1, b2, b3, b4, 0, 0, 0⟩, l⟩ : Ev) ad cap := (((hE.set11 b1).set12 b2).set13 b3).set14 b4
 have hR4 : RdAt ((((wr.setCell ⟨w.heap.size + 1, 11, none⟩ (.bool b1)).setCell ⟨w.heap.size + 1, 12, none⟩ (.bool b2)).setCell ⟨w.heap.size + 1, 13, none⟩ (.bool b3)).setCell ⟨w.heap.size + 1, 14, none⟩ (.bool b4)).drew R ro := ((((hR.setCell _ (by omega)).setCell _ (by omega)).setCell _ (by omega)).setCell _ (by omega)).below (bh _ _).drew
 have hF4 : Fr (rX R (w.heap.size + 1)) W5 ((((wr.setCell ⟨w.heap.size + 1, 11, none⟩ (.bool b1)).setCell ⟨w.heap.size + 1, 12, none⟩ (.bool b2)).setCell ⟨w.heap.size + 1, 13, none⟩ (.bool b3)).setCell ⟨w.heap.size + 1, 14, none⟩ (.bool b4)).drew := ((((hF5.setCell (bd (bd rfl)) _).setCell (bd (bd rfl)) _).setCell (bd (bd rfl)) _).setCell (bd (bd rfl)) _).again (Fr.of_below (bh _ _).drew)
 have hk4 : ∀ k, k ≠ w.heap.size + 1 -> (((((wr.setCell ⟨w.heap.size + 1, 11, none⟩ (.bool b1)).setCell ⟨w.heap.size + 1, 12, none⟩ (.bool b2)).setCell ⟨w.heap.size + 1, 13, none⟩ (.bool b3)).setCell ⟨w.heap.size + 1, 14, none⟩ (.bool b4)).drew).heap[k]? = wr.heap[k]? := fun k hk => (heap_setCell_other _ _ _ _ (fun e => hk e.symm)).trans ((heap_setCell_other _ _ _ _ (fun e => hk e.symm)).trans ((heap_setCell_other _ _ _ _ (fun e => hk e.symm)).trans (heap_setCell_other _ _ _ _ (fun e => hk e.symm))))
 have hZ4 : EvBlk ((((wr.setCell ⟨w.heap.size + 1, 11, none⟩ (.bool b1)).setCell ⟨w.heap.size + 1, 12, none⟩ (.bool b2)).setCell ⟨w.heap.size + 1, 13, none⟩ (.bool b3)).setCell ⟨w.heap.size + 1, 14, none⟩ (.bool b4)).drew w.heap.size ev0 none 0 := (hk4 _ (by omega)).trans hZ
 have hd4 : DotsIn ((((wr.setCell ⟨w.heap.size + 1, 11, none⟩ (.bool b1)).setCell ⟨w.heap.size + 1, 12, none⟩ (.bool b2)).setCell ⟨w.heap.size + 1, 13, none⟩ (.bool b3)).setCell ⟨w.heap.size + 1, 14, none⟩ (.bool b4)).drew ad l := hd.keep (fun A off h _ => hk4 _ (by have := hdz A off h; omega))
 have h04 : (((((wr.setCell ⟨w.heap.size + 1, 11, none⟩ (.bool b1)).setCell ⟨w.heap.size + 1, 12, none⟩ (.bool b2)).setCell ⟨w.heap.size + 1, 13, none⟩ (.bool b3)).setCell ⟨w.heap.size + 1, 14, none⟩ (.bool b4)).drew).cell? ⟨B, 0, none⟩ = some (.bool b0) := by simp [hset, p0]
 revert hE4 hR4 hF4 hk4 hZ4 hd4 h04
 exact kk.down) : p := h ⟨k⟩
theorem y81 {p q : Prop} (k : q) (h : PLift q -> p := by
 intro kk
 have HX := aq (HV.out.trans (if_pos hf0))
 have hlen : ∃ fa : Option Addr, fv = .slice fa 0 0 := by
  rcases KJ with h | ⟨B, h1, _⟩
  ·exact ⟨_, h.2⟩
  ·rw [hf0] at h1; exact ⟨_, h1⟩
 revert HX hlen
 exact kk.down) : p := h ⟨k⟩
theorem y69 {p q : Prop} (k : q) (h : PLift q -> p := by
 intro kk
 have hd : DotsIn wr ad l := by obtain ⟨_, _, h, hd⟩ := iF hown; cases h; exact hd
 have hdz : ∀ A off, ad = some ⟨A, off, none⟩ -> W5.heap.size <= A := Un hown
 have hZr : EvBlk wr w.heap.size ev0 none 0 := (hF5.block _ (by omega) (by rintro (h | h) <;> omega)).trans hZ
 revert hd hdz hZr
 exact kk.down) : p := h ⟨k⟩
theorem Ti (R:Nat) (r:Rd) (w:World) (hl:r.b.length<=1073741824) (h:RdAt w R r) :
 Calls prog 136 #[.pointer (some ⟨R,0,none⟩)] w fun x w'=>∃ a cap,x=.returned (kV (rEv r).2 a cap)/\DotsIn w' a (rEv r).2.over/\RdAt w' R (rEv r).1/\Fr (isR R) w w'/\(∀ A off,a=some ⟨A,off,none⟩->w.heap.size<=A):=by
 obtain ⟨ra,d,h1⟩:∃ a d,iI r=(a,d):=⟨_,_,rfl⟩;obtain ⟨rb,s,h2⟩:∃ b s,gQ ra=(b,s):=⟨_,_,rfl⟩;obtain ⟨rf,fl,h3⟩:∃ f fl,gy rb=(f,fl):=⟨_,_,rfl⟩;obtain ⟨rn,k,h4⟩:∃ n k,bQ 64 rf=(n,k):=⟨_,_,rfl⟩;obtain ⟨ro,l,h5⟩:∃ o l,dS k rn=(o,l):=⟨_,_,rfl⟩;have HV:=aq (MO r h1 h2 h3 h4 h5);have f1:=qc r;have f2:=vg ra;have f3:=AQ rb;have f4:=dA 64 rf;have ML:=G8 rb;rw [h1] at f1;rw [h2] at f2;rw [h3] at f3 ML;rw [h4] at f4;simp only at f1 f2 f3 f4 ML;have c1:∀ W,RdAt W R r->Calls prog 137 #[.pointer (some ⟨R,0,none⟩)] W (gV R ra (F8 d) W):=fun W hW=>by have:=xJ R r W hl hW;rw [h1] at this;exact this
 have c2:∀ W,RdAt W R ra->Calls prog 90 #[.pointer (some ⟨R,0,none⟩)] W (gV R rb (lT s) W):=fun W hW=>by have:=CX R ra W (by omega) hW;rw [h2] at this;exact this
 have c3:∀ W,RdAt W R rb->Calls prog 177 #[.pointer (some ⟨R,0,none⟩),.int .i64 5] W (Uf R rf fl W):=fun W hW=>by have:=TN R rb W (by omega) hW;rw [h3] at this;exact this
 have c4:∀ W,RdAt W R rf->Calls prog 89 #[.pointer (some ⟨R,0,none⟩),.int .u64 64] W (gV R rn (.int .u64 k) W):=fun W hW=>by have:=oQ R rf 64 W (by omega) (by omega) hW;rw [h4] at this;exact this
 have C1:=aq c1;have C2:=aq c2;have C3:=aq c3;have C4:=aq c4;have H5:=aq h5;have HFI:=aq ML;have HEr:=aq (fun (W:World) (r:Rd) (h:RdAt W R r)=>Fa R r W h);have hRl:=h.lt;clear c1 c2 c3 c4 h1 h2 h3 h4 h5 ML;go_enter func136,ntmps136;go_upto_region 2 with (first
  | (refine Great.wpList_buildTo rfl 82 _ rfl _ rfl #[.int .i64 0,.int .i64 0,.int .i64 0,.int .i64 0,.int .i64 0,.int .i64 0,.int .i64 2,.string ⟨#[]⟩,.string ⟨#[]⟩,.string ⟨#[]⟩,.string ⟨#[]⟩,.bool false,.bool false,.bool false,.bool false,.int .i64 0,.int .i64 0,.int .i64 0,.slice none 0 0] (by kernel_rfl) ?_)
  | (refine nR 82 _ _ _ #[.int .i64 0,.int .i64 0,.int .i64 0,.int .i64 0,.int .i64 0,.int .i64 0,.int .i64 2,.string ⟨#[]⟩,.string ⟨#[]⟩,.string ⟨#[]⟩,.string ⟨#[]⟩,.bool false,.bool false,.bool false,.bool false,.int .i64 0,.int .i64 0,.int .i64 0,.slice none 0 0] (w.heap.size+1) (by simp) rfl rfl (by kernel_rfl) rfl (by kernel_rfl) ?_))
 refine aI (fun W hW=>?_);have hF:Fr (isR R) w W:=by rw [hW.out];exact ((Fr.refl _ _).alloc _).alloc _
 have hR:RdAt W R r:=by rw [hW.out];exact h.below (((bh _ _).alloc (ar _) _).alloc (by simp) _)
 have hZ:EvBlk W w.heap.size ev0 none 0:=by rw [hW.out];unfold EvBlk;rw [Below.heap_alloc _ _ _ (by simp)];exact heap_alloc_last w _
 have hE:EvBlk W (w.heap.size+1) yH none 0:=by
  have:=heap_alloc_last (w.alloc (Obj.cells (az ev0 none 0).toArray 82)) (Obj.cells (az yH none 0).toArray 82);have hsz:(w.alloc (Obj.cells (az ev0 none 0).toArray 82)).heap.size=w.heap.size+1:=by simp
  rw [hsz] at this;rw [hW.out];exact this
 have hz:w.heap.size+2<=W.heap.size:=by rw [hW.out];simp
 clear hW h;go_upto_region 3 with (first
  | (go_at_call 137;(with_reducible refine (C1.out _ hR).mono ?_);rintro x w1 ⟨rfl,hR,hF1⟩;replace hE:=hE.fr hF1 (by omega);replace hZ:=hZ.fr hF1 (by omega);replace hz:=Nat.le_trans hz hF1.size;replace hF:=hF.again hF1;clear hF1)
  | (refine wpList_store_mid rfl 76 _ _ rfl (w.heap.size+1) 0 #[.int .i64 d.a.dev,.int .i64 d.a.inc,.int .i64 d.seq] rfl rfl (hE.there 0 3 (by omega)) (by kernel_rfl) (by kernel_rfl) ?_))
 refine aI (fun W2 hW2=>?_);replace hF:Fr (isR R) w W2:=by rw [hW2.out];exact hF.setCells (bb (by omega)) _ _
 replace hR:=hR.setCells (g:=w.heap.size+1) 0 [.int .i64 d.a.dev,.int .i64 d.a.inc,.int .i64 d.seq] (by omega);replace hZ:EvBlk W2 w.heap.size ev0 none 0:=by rw [hW2.out];exact (heap_setCells_other _ _ _ _ _ (by omega)).trans hZ
 replace hE:=hE.setDot d;have hz2:w.heap.size+2<=W2.heap.size:=by have:=hE.lt;rw [<- hW2.out] at this;omega
 rw [<- hW2.out] at hR hE;clear hW2 hz;have hz:=hz2;clear hz2;go_upto_region 4 with (first
  | (go_at_call 90;(with_reducible refine (C2.out _ hR).mono ?_);rintro x w1 ⟨rfl,hR,hF1⟩;replace hE:=hE.fr hF1 (by omega);replace hZ:=hZ.fr hF1 (by omega);replace hz:=Nat.le_trans hz hF1.size;replace hF:=hF.again hF1;clear hF1)
  | (refine wpList_store_mid rfl 32 _ _ rfl (w.heap.size+1) 3 #[.int .i64 s.wall,.int .i64 s.count,.int .i64 s.dev] rfl rfl (hE.there 3 3 (by omega)) (by kernel_rfl) (by kernel_rfl) ?_))
 refine aI (fun W3 hW3=>?_);replace hF:Fr (isR R) w W3:=by rw [hW3.out];exact hF.setCells (bb (by omega)) _ _
 replace hR:=hR.setCells (g:=w.heap.size+1) 3 [.int .i64 s.wall,.int .i64 s.count,.int .i64 s.dev] (by omega);replace hZ:EvBlk W3 w.heap.size ev0 none 0:=by rw [hW3.out];exact (heap_setCells_other _ _ _ _ _ (by omega)).trans hZ
 replace hE:=hE.setStamp s;have hz2:w.heap.size+2<=W3.heap.size:=by have:=hE.lt;rw [<- hW3.out] at this;omega
 rw [<- hW3.out] at hR hE;clear hW3 hz;have hz:=hz2;clear hz2;have hz3:=hz;go_upto_block 0 with (first
  | (go_at_call 177;(with_reducible refine (C3.out _ hR).mono ?_);rintro x w1 ⟨fv,rfl,hfl,hR,hF1⟩;replace hE:=hE.fr hF1 (by omega);replace hZ:=hZ.fr hF1 (by omega);replace hz:=Nat.le_trans hz hF1.size;replace hF:=hF.again hF1;clear hF1)
  | (go_at_call 89;(with_reducible refine (C4.out _ hR).mono ?_);rintro x w1 ⟨rfl,hR,hF1⟩;replace hE:=hE.fr hF1 (by omega);replace hZ:=hZ.fr hF1 (by omega);replace hz:=Nat.le_trans hz hF1.size;replace hF:=hF.again hF1;have hF5:=hF1;clear hF1))
 refine aI (fun W5 hW5=>?_);rw [<- hW5.out] at hR hE hZ hF hz;have UN:Aa W3 W5 fv fl:=by
  rw [hW5.out];rcases hfl with h | ⟨B,h1,h2,h3,h4⟩
  ·exact bb h
  ·exact bd ⟨B,h1,fun j hj=>hF5.kept (h2 j hj) (by simp only [isR];omega),h3,Nat.lt_of_lt_of_le h4 hF5.size⟩
 clear hW5 hfl hF5 C1 C2 C3 C4;have HI0:RJ W5 W5 R (w.heap.size+1) { { yH with dot:=d } with stamp:=s } rn []:=⟨none,0,hE,World.ownsRow_nil _ _ _ _,hR,Fr.refl _ _⟩;obtain ⟨i0,hi,hz0,hz1,hz2⟩:=info_parts Tryz.infoDot;go_wp2;go_loopw [5] (fun i wr=>∃ (m:Nat) (lr:List Dot) (rr:Rd),i=.int .u64 m/\m+lr.length<=64/\rr.b.length<=1073741824/\RJ W5 wr R (w.heap.size+1) { { yH with dot:=d } with stamp:=s } rr lr/\(ro,l)=((dS m rr).1,lr++(dS m rr).2)) (fun i _=>(intOf i).toNat)
 case atStart=>exact ⟨k,[],rn,rfl,by simp;omega,by omega,HI0,by rw [H5.out];rfl⟩
 case round =>
  obtain ⟨m,lr,rr,rfl,hm,hrl,HI,hpre⟩:=hrel;have HP:=aq hpre;clear hpre;by_cases hm0:0<m
  ·by_cases hre:rr.e=0
   ·have hq:(rr.e == 0)=true:=beq_iff_eq.2 hre
    obtain ⟨rd,dd,hdd⟩:∃ x y,iI rr=(x,y):=⟨(iI rr).1,(iI rr).2,rfl⟩;have hdf:=qc rr;have cD:∀ W,RdAt W R rr->Calls prog 137 #[.pointer (some ⟨R,0,none⟩)] W (gV R rd (F8 dd) W):=fun W hW=>by have:=xJ R rr W hrl hW;rw [hdd] at this;exact this
    rw [hdd] at hdf;simp only at hdf;have CD:=aq cD;have HS:Hid ((ro,l)=((dS (m - 1) rd).1,(lr++[dd])++(dS (m - 1) rd).2)):=by
     obtain ⟨m',rfl⟩:∃ m',m=m'+1:=⟨m - 1,by omega⟩;rw [Hid,HP.out];simp only [dS,if_pos hre,hdd,Nat.add_sub_cancel];simp
    obtain ⟨ad,cap,hE,hown,hR,hF5⟩:=HI;clear cD hdd HP hre;have q18:=hE.cell 18 _ rfl;rw [aw] at q18;have z18:=hE.free 18;go_upto_region 8 with (go_at_call 134;(with_reducible refine (HEr.out _ _ hR).mono ?_);rintro x w3 ⟨rfl,rfl⟩)
    have hRd:RdAt wr.drew R rr:=hR.below (bh _ _).drew;have hEd:EvBlk wr.drew (w.heap.size+1) { { { yH with dot:=d } with stamp:=s } with over:=lr } ad cap:=hE;have hownd:wr.drew.ownsRow W5.heap.size 76 3 (.slice ad lr.length cap) lr.length (aJ lr):=hown;have hFd:Fr (rX R (w.heap.size+1)) W5 wr.drew:=hF5.again (Fr.of_below (bh _ _).drew);have hdv:=dX lr;clear hR hE hown hF5;go_region_law
     (first
      | (go_simp;go_at_call 137;(with_reducible refine (CD.out _ hRd).mono ?_);rintro x wd ⟨rfl,hR2,hF2⟩;have hE2:=hEd.fr hF2 (by omega);have k18:=hE2.cell 18 _ rfl;rw [aw] at k18;have y18:=hE2.free 18;have hown2:=Bc hownd hF2 (by omega);have hsz:=hF2.size;have hsz2:=hFd.size;have XG:=fun o=>kept ((bh wd.heap.size wd).alloc (ar _) o) k18;have XC:=fun o=>(hE2.below ((bh wd.heap.size wd).alloc (ar _) o)).free 18)
      | (refine zJ rfl _ _ 44 rfl W5.heap.size 76 i0 (.agg #[.int .i64 0,.int .i64 0,.int .i64 0]) 3 24 underlying44 hi hz0 hz1 hz2 rfl (by decide) _ _ _ rfl (hown2.alloc _) ⟨wd.heap.size,0,none⟩ 1 1 [.int .i64 dd.a.dev,.int .i64 dd.a.inc,.int .i64 dd.seq] rfl rfl (Uw wd dd _) (by simp [Value.oneCell']) (by unfold maxLen;omega) (by omega) (by simp;omega) ?_;intro v' wf Qr hgrow;have BP:wf.ownsRow W5.heap.size 76 3 v' (lr++[dd]).length (aJ (lr++[dd])):=(by rw [<- DW,av];exact Qr);obtain ⟨ad',cap',rfl,_⟩:=iF BP;have hEa:=hE2.below ((bh wd.heap.size wd).alloc (ar _) (Obj.cells #[.int .i64 dd.a.dev,.int .i64 dd.a.inc,.int .i64 dd.seq] 76));have hEf:=hEa.grown hgrow (fun h=>by have:=(hown2.lt _ h.symm).1;omega);have p18:=hEf.cell 18 _ rfl;rw [aw] at p18;have x18:=hEf.free 18))
    all_goals
     have hEs:=hEf.setOver (a':=ad') (cap':=cap') (lr++[dd]);have hRs:RdAt (wf.setCell ⟨w.heap.size+1,18,none⟩ (.slice ad' (lr++[dd]).length cap')) R rd:=((hR2.below ((bh _ _).alloc (ar _) (Obj.cells #[.int .i64 dd.a.dev,.int .i64 dd.a.inc,.int .i64 dd.seq] 76))).grown hgrow (fun g hg=>by have:=(hown2.lt g hg).1;omega)).setCell _ (by omega);have hos:=ownsRow_setCell_other (a:=⟨w.heap.size+1,18,none⟩) BP (fun e=>by have:=(BP.lt _ e).1;simp only at this;omega) (.slice ad' (lr++[dd]).length cap');have hFs:Fr (rX R (w.heap.size+1)) W5 (wf.setCell ⟨w.heap.size+1,18,none⟩ (.slice ad' (lr++[dd]).length cap')):=by
      have hg1:Fr (rX R (w.heap.size+1)) W5 wf:=by
       have h1:=(hFd.again (qV hF2)).alloc (Obj.cells #[.int .i64 dd.a.dev,.int .i64 dd.a.inc,.int .i64 dd.seq] 76);refine ⟨hgrow.os.trans h1.os,hgrow.tape.trans h1.tape,hgrow.output.trans h1.output,Nat.le_trans h1.size hgrow.size,fun k hk hs=>?_⟩;exact (hgrow.block k (Nat.lt_of_lt_of_le hk h1.size) (fun e=>by have:=(hown2.lt k e.symm).1;omega)).trans (h1.block k hk hs)
      exact hg1.setCell (bd (bd rfl)) _
     simp only [av,List.length_singleton] at hEs hRs hFs hos;have HI2:RJ W5 (wf.setCell ⟨w.heap.size+1,18,none⟩ (.slice ad' (lr.length+1) cap')) R (w.heap.size+1) { { yH with dot:=d } with stamp:=s } rd (lr++[dd]):=⟨ad',cap',by simp only [EvBlk,az,av,List.length_singleton] at hEs ⊢;exact hEs,by simp only [av,List.length_singleton];exact hos,hRs,hFs⟩;clear hEs hRs hos hFs hEf hEa BP Qr hgrow hE2 hown2 hR2 hF2 hFd hEd hownd hRd;go_wp2;go_roundw
     case rel=>exact ⟨m - 1,lr++[dd],rd,by go_num,by simp;omega,by omega,HI2,HS.out⟩
     case measure => exact z67
   ·have hq:(rr.e == 0)=false:=beq_eq_false_iff_ne.2 hre
    have hrl2:ro=rr/\l=lr:=by
     obtain ⟨m',rfl⟩:∃ m',m=m'+1:=⟨m - 1,by omega⟩;have h:=HP.out;simp only [dS,if_neg hre] at h;simp only [Prod.mk.injEq,List.append_nil] at h;exact h
    obtain ⟨rfl,rfl⟩:=hrl2;clear HP hre;have hF0:=hF;have HI':=HI;obtain ⟨_,_,_,_,hR,_⟩:=HI';go_upto_region 9 with (go_at_call 134;(with_reducible refine (HEr.out _ _ hR).mono ?_);rintro x w3 ⟨rfl,rfl⟩)
    clear hR hq;obtain ⟨ad,cap,hE,hown,hR,hF5⟩:=HI
    refine y69 ?_
    intro hd hdz hZr
    have KJ:Aa W3 wr fv fl:=by
     exact z101
    have hll:l.length<=64:=by omega
    clear hown hZ UN;have hZ:=hZr;clear hZr;rcases HFI.out with hf0 | ⟨b0,b1,b2,b3,b4,hf5⟩
    ·refine y81 ?_
     intro HX hlen
     obtain ⟨fa,rfl⟩:=hlen;clear hf0 KJ
     refine y47 ?_
     intro hF hs iM
     by_cases hxe:ro.e=0
     ·refine y83 ?_
      intro hq1 hq2
      cases hok:dm (⟨d,s,2,eQ,ck0,l⟩:Ev) with
      | true =>
        have HE:=aq (AU HX.out hxe hok);rw [hok] at iM;have HRt:=aq iM;clear iM hok hxe;go_wp2_with (first
            | (go_at_call 134;(with_reducible refine (HEr.out _ _ hR).mono ?_);rintro x w3 ⟨rfl,rfl⟩)
            | ((with_reducible refine bf _ (w.heap.size+1) (⟨d,s,2,eQ,ck0,l⟩:Ev) ad cap hE.cell ?_ rfl ?_);exact rfl)
            | (go_at_call 52;(with_reducible refine (HRt.out _ hd).mono ?_);rintro x w4 ⟨rfl,hb⟩;replace hZ:=hZ.below hb;replace hE:=hE.below hb;replace hR:=hR.below hb;replace hd:=hd.kept hb;replace hF:=hF.again (Fr.of_below hb))
            | (refine wpList_store_row rfl 82 _ _ rfl w.heap.size (az (⟨d,s,2,eQ,ck0,l⟩:Ev) ad cap).toArray rfl rfl 82 (az ev0 none 0).toArray hZ (by kernel_rfl) rfl (by kernel_rfl) ?_))
        refine ed 2 82 82 w.heap.size (az (⟨d,s,2,eQ,ck0,l⟩:Ev) ad cap).toArray _ rfl rfl (setRow_heap _ _ _ _ _ _ hZ) underlying82 rfl (by kernel_rfl) rfl ?_;rw [HE.out];exact ⟨ad,cap,rfl,hd.setRow _ (fun A off h=>by have:=hdz A off h;omega),hR.setRow (by omega),hF.setRow (bb (ar _)) _,fun A off h=>by have:=hdz A off h;omega⟩
      | false =>
        have HE:=aq (wU HX.out hxe hok);have HFF:Hid (gY ro 1=⟨ro.b,1⟩):=by unfold Hid gY;rw [if_pos hxe]
        have HFl:=aq (fun (W:World) (h:RdAt W R ro)=>vW R ro 1 W h);rw [hok] at iM;have HRt:=aq iM;clear iM hok hxe;go_wp2_with (first
            | (go_at_call 134;(with_reducible refine (HEr.out _ _ hR).mono ?_);rintro x w3 ⟨rfl,rfl⟩)
            | ((with_reducible refine bf _ (w.heap.size+1) (⟨d,s,2,eQ,ck0,l⟩:Ev) ad cap hE.cell ?_ rfl ?_);exact rfl)
            | (go_at_call 52;(with_reducible refine (HRt.out _ hd).mono ?_);rintro x w4 ⟨rfl,hb⟩;replace hZ:=hZ.below hb;replace hE:=hE.below hb;replace hR:=hR.below hb;replace hd:=hd.kept hb;replace hF:=hF.again (Fr.of_below hb))
            | (go_at_call 176;(with_reducible refine (HFl.out _ hR).mono ?_);rintro x w5 ⟨rfl,hR,hF1⟩;rw [HFF.out] at hR;replace hZ:=hZ.fr hF1 (by omega);replace hF:=hF.again hF1)
            | (refine Great.wpList_buildTo rfl 82 _ rfl _ rfl #[.int .i64 0,.int .i64 0,.int .i64 0,.int .i64 0,.int .i64 0,.int .i64 0,.int .i64 0,.string ⟨#[]⟩,.string ⟨#[]⟩,.string ⟨#[]⟩,.string ⟨#[]⟩,.bool false,.bool false,.bool false,.bool false,.int .i64 0,.int .i64 0,.int .i64 0,.slice none 0 0] (by kernel_rfl) ?_)
            | (refine wpList_store_row rfl 82 _ _ rfl w.heap.size #[.int .i64 0,.int .i64 0,.int .i64 0,.int .i64 0,.int .i64 0,.int .i64 0,.int .i64 0,.string ⟨#[]⟩,.string ⟨#[]⟩,.string ⟨#[]⟩,.string ⟨#[]⟩,.bool false,.bool false,.bool false,.bool false,.int .i64 0,.int .i64 0,.int .i64 0,.slice none 0 0] rfl rfl 82 (az ev0 none 0).toArray hZ (by kernel_rfl) rfl (by kernel_rfl) ?_))
        refine ed 2 82 82 w.heap.size #[.int .i64 0,.int .i64 0,.int .i64 0,.int .i64 0,.int .i64 0,.int .i64 0,.int .i64 0,.string ⟨#[]⟩,.string ⟨#[]⟩,.string ⟨#[]⟩,.string ⟨#[]⟩,.bool false,.bool false,.bool false,.bool false,.int .i64 0,.int .i64 0,.int .i64 0,.slice none 0 0] _ rfl rfl (setRow_heap _ _ _ _ _ _ hZ) underlying82 rfl (by kernel_rfl) rfl ?_;rw [HE.out];exact ⟨none,0,rfl,bb rfl,hR.setRow (by omega),hF.setRow (bb (ar _)) _,fun A off h=>by cases h⟩
     ·exact z86
    ·have hne:fl≠[]:=by rw [hf5];simp
     have h5:∃ B,fv=.slice (some ⟨B,0,none⟩) 5 5/\nC wr B [b0,b1,b2,b3,b4]/\W3.heap.size<=B:=by
      exact z144
     obtain ⟨B,rfl,hbo,hB3⟩:=h5;have p0:=hbo 0 (by simp);have p1:=hbo 1 (by simp);have p2:=hbo 2 (by simp);have p3:=hbo 3 (by simp);have p4:=hbo 4 (by simp);simp only [List.getElem_cons_zero,List.getElem_cons_succ] at p0 p1 p2 p3 p4;have HV2:=aq (HV.out.trans (if_neg hne));rw [hf5] at HV2;simp only [jr,List.getD_cons_zero,List.getD_cons_succ] at HV2;clear KJ hbo hne hf5;have e11:=hE.cell 11 _ rfl;have e12:=hE.cell 12 _ rfl;have e13:=hE.cell 13 _ rfl;have e14:=hE.cell 14 _ rfl;rw [aw] at e11 e12 e13 e14;have z11:=hE.free 11;have z12:=hE.free 12;have z13:=hE.free 13;have z14:=hE.free 14;go_upto_region 10 with fail
     have hset:∀ (W:World) (o j:Nat) (v:Value),(W.setCell ⟨w.heap.size+1,o,none⟩ v).cell? ⟨B,j,none⟩=W.cell? ⟨B,j,none⟩:=fun W o j v=>World.cell?_setCell_other _ _ _ _ (fun e=>by simp only [Addr.mk.injEq] at e;omega);go_region_held3 (fun w'=>w'.cell? ⟨B,1,none⟩=some (.bool b1)/\w'.cell? ⟨B,2,none⟩=some (.bool b2)/\w'.cell? ⟨B,3,none⟩=some (.bool b3)/\w'.cell? ⟨B,4,none⟩=some (.bool b4)) (first | exact ⟨p1,p2,p3,p4⟩ | (refine ⟨?_,?_,?_,?_⟩ <;> simp [hset,p1,p2,p3,p4])) (fail)
     refine y7 ?_
     intro hE4 hR4 hF4 hk4 hZ4 hd4 h04
     clear p0 p1 p2 p3 p4 e11 e12 e13 e14 z11 z12 z13 z14 hk4 hset hE hR hZ hd hF5
     generalize ((((wr.setCell ⟨w.heap.size+1,11,none⟩ (.bool b1)).setCell ⟨w.heap.size+1,12,none⟩ (.bool b2)).setCell ⟨w.heap.size+1,13,none⟩ (.bool b3)).setCell ⟨w.heap.size+1,14,none⟩ (.bool b4)).drew=WX at *;have hE:=hE4;have hR:=hR4;have hZ:=hZ4;have hd:=hd4;clear hE4 hR4 hZ4 hd4
     cases b0 with
     | false =>
       have HX:Hid (yJ r=(ro,(⟨d,s,2,eQ,⟨ByteArray.empty,b1,b2,b3,b4,0,0,0⟩,l⟩:Ev))):=HV2.out.trans (if_neg (by decide));have hF:Fr (isR R) w WX:=Cf hF0 hF4 (by omega);clear HV2;have hs:=(⟨Nat.zero_le _,Nat.zero_le _,Nat.zero_le _,Nat.zero_le _,by simp only;omega⟩:EvSmall (⟨d,s,2,eQ,⟨ByteArray.empty,b1,b2,b3,b4,0,0,0⟩,l⟩:Ev));have iM:=fun (W:World) (h:DotsIn W ad (⟨d,s,2,eQ,⟨ByteArray.empty,b1,b2,b3,b4,0,0,0⟩,l⟩:Ev).over)=>fQ (⟨d,s,2,eQ,⟨ByteArray.empty,b1,b2,b3,b4,0,0,0⟩,l⟩:Ev) ad cap W hs h;by_cases hxe:ro.e=0
       ·exact z6
       ·have hq1:(ro.e == 0)=false:=beq_eq_false_iff_ne.2 hxe
        have hq2:(ro.e != 0)=true:=by rw [bne_iff_ne];exact hxe
        exact z23
     | true =>
       have HX:Hid (yJ r=(iE ro,(dK (⟨d,s,1,eQ,⟨ByteArray.empty,b1,b2,b3,b4,0,0,0⟩,l⟩:Ev) ro))):=HV2.out.trans (if_pos rfl);have q6:=hE.cell 6 _ rfl;rw [aw] at q6;have z6:=hE.free 6;go_upto_region 13 with fail
       have hE6:=hE.set6 1;have hR6:=hR.setCell (g:=w.heap.size+1) (o:=6) (.int .i64 1) (by omega);have hF6:=hF4.setCell (p:=⟨w.heap.size+1,6,none⟩) (bd (bd rfl)) (.int .i64 1);have hk6:∀ k,k≠w.heap.size+1->(WX.setCell ⟨w.heap.size+1,6,none⟩ (.int .i64 1)).heap[k]?=WX.heap[k]?:=fun k hk=>heap_setCell_other _ _ _ _ (fun e=>hk e.symm);have hZ6:EvBlk (WX.setCell ⟨w.heap.size+1,6,none⟩ (.int .i64 1)) w.heap.size ev0 none 0:=(hk6 _ (by omega)).trans hZ;have hd6:DotsIn (WX.setCell ⟨w.heap.size+1,6,none⟩ (.int .i64 1)) ad l:=hd.keep (fun A off h _=>hk6 _ (by have:=hdz A off h;omega));clear HV2 q6 z6 hk6 hE hR hZ hd hF4 h04;generalize WX.setCell ⟨w.heap.size+1,6,none⟩ (.int .i64 1)=WY at *;have HIt:=aq (Qm R (w.heap.size+1) ro _ ad cap WY hrl hR6 hE6 (by omega));go_upto_region 14 with (go_at_call 178;(with_reducible refine HIt.out.mono ?_);rintro x wz ⟨rfl,hR,hE,hFi⟩)
       have hZ:EvBlk wz w.heap.size ev0 none 0:=(hFi.block _ hZ6.lt (by rintro (h | h) <;> omega)).trans hZ6;have hd:DotsIn wz ad l:=hd6.keep (fun A off h hne=>by
        have hA:=hdz A off h;have hlt:A<WY.heap.size:=by
            exact z109
        exact hFi.block A hlt (by rintro (h | h) <;> omega))
       have hF:Fr (isR R) w wz:=Cf hF0 (hF6.again hFi) (by omega);have t1:=eu 256 ro;have t2:=eu 256 (aV 256 ro).1;have t3:=eu 256 (aV 256 (aV 256 ro).1).1;have t4:=eu 1024 (aV 256 (aV 256 (aV 256 ro).1).1).1;have hsm:EvSmall (dK (⟨d,s,1,eQ,⟨ByteArray.empty,b1,b2,b3,b4,0,0,0⟩,l⟩:Ev) ro):=⟨by show (aV 256 ro).2.length<=_;omega,by show (aV 256 (aV 256 ro).1).2.length<=_;omega,by show (aV 256 (aV 256 (aV 256 ro).1).1).2.length<=_;omega,by show (aV 1024 (aV 256 (aV 256 (aV 256 ro).1).1).1).2.length<=_;omega,by show l.length<=_;omega⟩;clear t1 t2 t3 t4 hFi hd6 hZ6 hE6 hR6 hF6 HIt;have hs:=hsm;have iM:=fun (W:World) (h:DotsIn W ad (dK (⟨d,s,1,eQ,⟨ByteArray.empty,b1,b2,b3,b4,0,0,0⟩,l⟩:Ev) ro).over)=>fQ (dK (⟨d,s,1,eQ,⟨ByteArray.empty,b1,b2,b3,b4,0,0,0⟩,l⟩:Ev) ro) ad cap W hs h;by_cases hxe:(iE ro).e=0
       ·have hq1:((iE ro).e == 0)=true:=beq_iff_eq.2 hxe
        have hq2:((iE ro).e != 0)=false:=by rw [bne_eq_false_iff_eq];exact hxe
        cases hok:dm (dK (⟨d,s,1,eQ,⟨ByteArray.empty,b1,b2,b3,b4,0,0,0⟩,l⟩:Ev) ro) with
        | true =>
          have HE:=aq (AU HX.out hxe hok);rw [hok] at iM;have HRt:=aq iM;clear iM hok hxe;go_wp2_with (first
              | (go_at_call 134;(with_reducible refine (HEr.out _ _ hR).mono ?_);rintro x w3 ⟨rfl,rfl⟩)
              | ((with_reducible refine bf _ (w.heap.size+1) (dK (⟨d,s,1,eQ,⟨ByteArray.empty,b1,b2,b3,b4,0,0,0⟩,l⟩:Ev) ro) ad cap hE.cell ?_ rfl ?_);exact rfl)
              | (go_at_call 52;(with_reducible refine (HRt.out _ hd).mono ?_);rintro x w4 ⟨rfl,hb⟩;replace hZ:=hZ.below hb;replace hE:=hE.below hb;replace hR:=hR.below hb;replace hd:=hd.kept hb;replace hF:=hF.again (Fr.of_below hb))
              | (refine wpList_store_row rfl 82 _ _ rfl w.heap.size (az (dK (⟨d,s,1,eQ,⟨ByteArray.empty,b1,b2,b3,b4,0,0,0⟩,l⟩:Ev) ro) ad cap).toArray rfl rfl 82 (az ev0 none 0).toArray hZ (by kernel_rfl) rfl (by kernel_rfl) ?_))
          refine ed 2 82 82 w.heap.size (az (dK (⟨d,s,1,eQ,⟨ByteArray.empty,b1,b2,b3,b4,0,0,0⟩,l⟩:Ev) ro) ad cap).toArray _ rfl rfl (setRow_heap _ _ _ _ _ _ hZ) underlying82 rfl (by kernel_rfl) rfl ?_;rw [HE.out];exact ⟨ad,cap,rfl,hd.setRow _ (fun A off h=>by have:=hdz A off h;omega),hR.setRow (by omega),hF.setRow (bb (ar _)) _,fun A off h=>by have:=hdz A off h;omega⟩
        | false =>
          have HE:=aq (wU HX.out hxe hok);have HFF:Hid (gY (iE ro) 1=⟨(iE ro).b,1⟩):=by unfold Hid gY;rw [if_pos hxe]
          have HFl:=aq (fun (W:World) (h:RdAt W R (iE ro))=>vW R (iE ro) 1 W h);rw [hok] at iM;have HRt:=aq iM;clear iM hok hxe;go_wp2_with (first
              | (go_at_call 134;(with_reducible refine (HEr.out _ _ hR).mono ?_);rintro x w3 ⟨rfl,rfl⟩)
              | ((with_reducible refine bf _ (w.heap.size+1) (dK (⟨d,s,1,eQ,⟨ByteArray.empty,b1,b2,b3,b4,0,0,0⟩,l⟩:Ev) ro) ad cap hE.cell ?_ rfl ?_);exact rfl)
              | (go_at_call 52;(with_reducible refine (HRt.out _ hd).mono ?_);rintro x w4 ⟨rfl,hb⟩;replace hZ:=hZ.below hb;replace hE:=hE.below hb;replace hR:=hR.below hb;replace hd:=hd.kept hb;replace hF:=hF.again (Fr.of_below hb))
              | (go_at_call 176;(with_reducible refine (HFl.out _ hR).mono ?_);rintro x w5 ⟨rfl,hR,hF1⟩;rw [HFF.out] at hR;replace hZ:=hZ.fr hF1 (by omega);replace hF:=hF.again hF1)
              | (refine Great.wpList_buildTo rfl 82 _ rfl _ rfl #[.int .i64 0,.int .i64 0,.int .i64 0,.int .i64 0,.int .i64 0,.int .i64 0,.int .i64 0,.string ⟨#[]⟩,.string ⟨#[]⟩,.string ⟨#[]⟩,.string ⟨#[]⟩,.bool false,.bool false,.bool false,.bool false,.int .i64 0,.int .i64 0,.int .i64 0,.slice none 0 0] (by kernel_rfl) ?_)
              | (refine wpList_store_row rfl 82 _ _ rfl w.heap.size #[.int .i64 0,.int .i64 0,.int .i64 0,.int .i64 0,.int .i64 0,.int .i64 0,.int .i64 0,.string ⟨#[]⟩,.string ⟨#[]⟩,.string ⟨#[]⟩,.string ⟨#[]⟩,.bool false,.bool false,.bool false,.bool false,.int .i64 0,.int .i64 0,.int .i64 0,.slice none 0 0] rfl rfl 82 (az ev0 none 0).toArray hZ (by kernel_rfl) rfl (by kernel_rfl) ?_))
          refine ed 2 82 82 w.heap.size #[.int .i64 0,.int .i64 0,.int .i64 0,.int .i64 0,.int .i64 0,.int .i64 0,.int .i64 0,.string ⟨#[]⟩,.string ⟨#[]⟩,.string ⟨#[]⟩,.string ⟨#[]⟩,.bool false,.bool false,.bool false,.bool false,.int .i64 0,.int .i64 0,.int .i64 0,.slice none 0 0] _ rfl rfl (setRow_heap _ _ _ _ _ _ hZ) underlying82 rfl (by kernel_rfl) rfl ?_;rw [HE.out];exact ⟨none,0,rfl,bb rfl,hR.setRow (by omega),hF.setRow (bb (ar _)) _,fun A off h=>by cases h⟩
       ·have hq1:((iE ro).e == 0)=false:=beq_eq_false_iff_ne.2 hxe
        have hq2:((iE ro).e != 0)=true:=by rw [bne_iff_ne];exact hxe
        exact z23
  ·have hd0:decide (0<m)=false:=aM hm0
   have hrl2:ro=rr/\l=lr:=by
        obtain rfl:m=0:=by omega
        have h:=HP.out;simp only [dS,Prod.mk.injEq,List.append_nil] at h;exact h
   obtain ⟨rfl,rfl⟩:=hrl2;clear HP;have hF0:=hF;go_upto_region 9 with fail
   clear hd0;obtain ⟨ad,cap,hE,hown,hR,hF5⟩:=HI
   refine y69 ?_
   intro hd hdz hZr
   have KJ:Aa W3 wr fv fl:=by
        exact z101
   have hll:l.length<=64:=by omega
   clear hown hZ UN;have hZ:=hZr;clear hZr;rcases HFI.out with hf0 | ⟨b0,b1,b2,b3,b4,hf5⟩
   ·refine y81 ?_
    intro HX hlen
    obtain ⟨fa,rfl⟩:=hlen;clear hf0 KJ
    refine y47 ?_
    intro hF hs iM
    by_cases hxe:ro.e=0
    ·refine y83 ?_
     intro hq1 hq2
     cases hok:dm (⟨d,s,2,eQ,ck0,l⟩:Ev) with
     | true =>
       have HE:=aq (AU HX.out hxe hok);rw [hok] at iM;have HRt:=aq iM;clear iM hok hxe;go_wp2_with (first
        | (go_at_call 134;(with_reducible refine (HEr.out _ _ hR).mono ?_);rintro x w3 ⟨rfl,rfl⟩)
        | ((with_reducible refine bf _ (w.heap.size+1) (⟨d,s,2,eQ,ck0,l⟩:Ev) ad cap hE.cell ?_ rfl ?_);exact rfl)
        | (go_at_call 52;(with_reducible refine (HRt.out _ hd).mono ?_);rintro x w4 ⟨rfl,hb⟩;replace hZ:=hZ.below hb;replace hE:=hE.below hb;replace hR:=hR.below hb;replace hd:=hd.kept hb;replace hF:=hF.again (Fr.of_below hb))
        | (refine wpList_store_row rfl 82 _ _ rfl w.heap.size (az (⟨d,s,2,eQ,ck0,l⟩:Ev) ad cap).toArray rfl rfl 82 (az ev0 none 0).toArray hZ (by kernel_rfl) rfl (by kernel_rfl) ?_))
       refine ed 2 82 82 w.heap.size (az (⟨d,s,2,eQ,ck0,l⟩:Ev) ad cap).toArray _ rfl rfl (setRow_heap _ _ _ _ _ _ hZ) underlying82 rfl (by kernel_rfl) rfl ?_;rw [HE.out];exact ⟨ad,cap,rfl,hd.setRow _ (fun A off h=>by have:=hdz A off h;omega),hR.setRow (by omega),hF.setRow (bb (ar _)) _,fun A off h=>by have:=hdz A off h;omega⟩
     | false =>
       have HE:=aq (wU HX.out hxe hok);have HFF:Hid (gY ro 1=⟨ro.b,1⟩):=by unfold Hid gY;rw [if_pos hxe]
       have HFl:=aq (fun (W:World) (h:RdAt W R ro)=>vW R ro 1 W h);rw [hok] at iM;have HRt:=aq iM;clear iM hok hxe;go_wp2_with (first
        | (go_at_call 134;(with_reducible refine (HEr.out _ _ hR).mono ?_);rintro x w3 ⟨rfl,rfl⟩)
        | ((with_reducible refine bf _ (w.heap.size+1) (⟨d,s,2,eQ,ck0,l⟩:Ev) ad cap hE.cell ?_ rfl ?_);exact rfl)
        | (go_at_call 52;(with_reducible refine (HRt.out _ hd).mono ?_);rintro x w4 ⟨rfl,hb⟩;replace hZ:=hZ.below hb;replace hE:=hE.below hb;replace hR:=hR.below hb;replace hd:=hd.kept hb;replace hF:=hF.again (Fr.of_below hb))
        | (go_at_call 176;(with_reducible refine (HFl.out _ hR).mono ?_);rintro x w5 ⟨rfl,hR,hF1⟩;rw [HFF.out] at hR;replace hZ:=hZ.fr hF1 (by omega);replace hF:=hF.again hF1)
        | (refine Great.wpList_buildTo rfl 82 _ rfl _ rfl #[.int .i64 0,.int .i64 0,.int .i64 0,.int .i64 0,.int .i64 0,.int .i64 0,.int .i64 0,.string ⟨#[]⟩,.string ⟨#[]⟩,.string ⟨#[]⟩,.string ⟨#[]⟩,.bool false,.bool false,.bool false,.bool false,.int .i64 0,.int .i64 0,.int .i64 0,.slice none 0 0] (by kernel_rfl) ?_)
        | (refine wpList_store_row rfl 82 _ _ rfl w.heap.size #[.int .i64 0,.int .i64 0,.int .i64 0,.int .i64 0,.int .i64 0,.int .i64 0,.int .i64 0,.string ⟨#[]⟩,.string ⟨#[]⟩,.string ⟨#[]⟩,.string ⟨#[]⟩,.bool false,.bool false,.bool false,.bool false,.int .i64 0,.int .i64 0,.int .i64 0,.slice none 0 0] rfl rfl 82 (az ev0 none 0).toArray hZ (by kernel_rfl) rfl (by kernel_rfl) ?_))
       refine ed 2 82 82 w.heap.size #[.int .i64 0,.int .i64 0,.int .i64 0,.int .i64 0,.int .i64 0,.int .i64 0,.int .i64 0,.string ⟨#[]⟩,.string ⟨#[]⟩,.string ⟨#[]⟩,.string ⟨#[]⟩,.bool false,.bool false,.bool false,.bool false,.int .i64 0,.int .i64 0,.int .i64 0,.slice none 0 0] _ rfl rfl (setRow_heap _ _ _ _ _ _ hZ) underlying82 rfl (by kernel_rfl) rfl ?_;rw [HE.out];exact ⟨none,0,rfl,bb rfl,hR.setRow (by omega),hF.setRow (bb (ar _)) _,fun A off h=>by cases h⟩
    ·exact z86
   ·have hne:fl≠[]:=by rw [hf5];simp
    have h5:∃ B,fv=.slice (some ⟨B,0,none⟩) 5 5/\nC wr B [b0,b1,b2,b3,b4]/\W3.heap.size<=B:=by
     exact z144
    obtain ⟨B,rfl,hbo,hB3⟩:=h5;have p0:=hbo 0 (by simp);have p1:=hbo 1 (by simp);have p2:=hbo 2 (by simp);have p3:=hbo 3 (by simp);have p4:=hbo 4 (by simp);simp only [List.getElem_cons_zero,List.getElem_cons_succ] at p0 p1 p2 p3 p4;have HV2:=aq (HV.out.trans (if_neg hne));rw [hf5] at HV2;simp only [jr,List.getD_cons_zero,List.getD_cons_succ] at HV2;clear KJ hbo hne hf5;have e11:=hE.cell 11 _ rfl;have e12:=hE.cell 12 _ rfl;have e13:=hE.cell 13 _ rfl;have e14:=hE.cell 14 _ rfl;rw [aw] at e11 e12 e13 e14;have z11:=hE.free 11;have z12:=hE.free 12;have z13:=hE.free 13;have z14:=hE.free 14;go_upto_region 10 with fail
    have hset:∀ (W:World) (o j:Nat) (v:Value),(W.setCell ⟨w.heap.size+1,o,none⟩ v).cell? ⟨B,j,none⟩=W.cell? ⟨B,j,none⟩:=fun W o j v=>World.cell?_setCell_other _ _ _ _ (fun e=>by simp only [Addr.mk.injEq] at e;omega);go_region_held3 (fun w'=>w'.cell? ⟨B,1,none⟩=some (.bool b1)/\w'.cell? ⟨B,2,none⟩=some (.bool b2)/\w'.cell? ⟨B,3,none⟩=some (.bool b3)/\w'.cell? ⟨B,4,none⟩=some (.bool b4)) (first | exact ⟨p1,p2,p3,p4⟩ | (refine ⟨?_,?_,?_,?_⟩ <;> simp [hset,p1,p2,p3,p4])) (fail)
    refine y7 ?_
    intro hE4 hR4 hF4 hk4 hZ4 hd4 h04
    clear p0 p1 p2 p3 p4 e11 e12 e13 e14 z11 z12 z13 z14 hk4 hset hE hR hZ hd hF5
    generalize ((((wr.setCell ⟨w.heap.size+1,11,none⟩ (.bool b1)).setCell ⟨w.heap.size+1,12,none⟩ (.bool b2)).setCell ⟨w.heap.size+1,13,none⟩ (.bool b3)).setCell ⟨w.heap.size+1,14,none⟩ (.bool b4)).drew=WX at *;have hE:=hE4;have hR:=hR4;have hZ:=hZ4;have hd:=hd4;clear hE4 hR4 hZ4 hd4
    cases b0 with
    | false =>
      have HX:Hid (yJ r=(ro,(⟨d,s,2,eQ,⟨ByteArray.empty,b1,b2,b3,b4,0,0,0⟩,l⟩:Ev))):=HV2.out.trans (if_neg (by decide));have hF:Fr (isR R) w WX:=Cf hF0 hF4 (by omega);clear HV2;have hs:=(⟨Nat.zero_le _,Nat.zero_le _,Nat.zero_le _,Nat.zero_le _,by simp only;omega⟩:EvSmall (⟨d,s,2,eQ,⟨ByteArray.empty,b1,b2,b3,b4,0,0,0⟩,l⟩:Ev));have iM:=fun (W:World) (h:DotsIn W ad (⟨d,s,2,eQ,⟨ByteArray.empty,b1,b2,b3,b4,0,0,0⟩,l⟩:Ev).over)=>fQ (⟨d,s,2,eQ,⟨ByteArray.empty,b1,b2,b3,b4,0,0,0⟩,l⟩:Ev) ad cap W hs h;by_cases hxe:ro.e=0
      ·exact z6
      ·exact z86
    | true =>
      have HX:Hid (yJ r=(iE ro,(dK (⟨d,s,1,eQ,⟨ByteArray.empty,b1,b2,b3,b4,0,0,0⟩,l⟩:Ev) ro))):=HV2.out.trans (if_pos rfl);have q6:=hE.cell 6 _ rfl;rw [aw] at q6;have z6:=hE.free 6;go_upto_region 13 with fail
      have hE6:=hE.set6 1;have hR6:=hR.setCell (g:=w.heap.size+1) (o:=6) (.int .i64 1) (by omega);have hF6:=hF4.setCell (p:=⟨w.heap.size+1,6,none⟩) (bd (bd rfl)) (.int .i64 1);have hk6:∀ k,k≠w.heap.size+1->(WX.setCell ⟨w.heap.size+1,6,none⟩ (.int .i64 1)).heap[k]?=WX.heap[k]?:=fun k hk=>heap_setCell_other _ _ _ _ (fun e=>hk e.symm);have hZ6:EvBlk (WX.setCell ⟨w.heap.size+1,6,none⟩ (.int .i64 1)) w.heap.size ev0 none 0:=(hk6 _ (by omega)).trans hZ;have hd6:DotsIn (WX.setCell ⟨w.heap.size+1,6,none⟩ (.int .i64 1)) ad l:=hd.keep (fun A off h _=>hk6 _ (by have:=hdz A off h;omega));clear HV2 q6 z6 hk6 hE hR hZ hd hF4 h04;generalize WX.setCell ⟨w.heap.size+1,6,none⟩ (.int .i64 1)=WY at *;have HIt:=aq (Qm R (w.heap.size+1) ro _ ad cap WY hrl hR6 hE6 (by omega));go_upto_region 14 with (go_at_call 178;(with_reducible refine HIt.out.mono ?_);rintro x wz ⟨rfl,hR,hE,hFi⟩)
      have hZ:EvBlk wz w.heap.size ev0 none 0:=(hFi.block _ hZ6.lt (by rintro (h | h) <;> omega)).trans hZ6;have hd:DotsIn wz ad l:=hd6.keep (fun A off h hne=>by
       have hA:=hdz A off h;have hlt:A<WY.heap.size:=by
        exact z109
       exact hFi.block A hlt (by rintro (h | h) <;> omega))
      have hF:Fr (isR R) w wz:=Cf hF0 (hF6.again hFi) (by omega);have t1:=eu 256 ro;have t2:=eu 256 (aV 256 ro).1;have t3:=eu 256 (aV 256 (aV 256 ro).1).1;have t4:=eu 1024 (aV 256 (aV 256 (aV 256 ro).1).1).1;have hsm:EvSmall (dK (⟨d,s,1,eQ,⟨ByteArray.empty,b1,b2,b3,b4,0,0,0⟩,l⟩:Ev) ro):=⟨by show (aV 256 ro).2.length<=_;omega,by show (aV 256 (aV 256 ro).1).2.length<=_;omega,by show (aV 256 (aV 256 (aV 256 ro).1).1).2.length<=_;omega,by show (aV 1024 (aV 256 (aV 256 (aV 256 ro).1).1).1).2.length<=_;omega,by show l.length<=_;omega⟩;clear t1 t2 t3 t4 hFi hd6 hZ6 hE6 hR6 hF6 HIt;have hs:=hsm;have iM:=fun (W:World) (h:DotsIn W ad (dK (⟨d,s,1,eQ,⟨ByteArray.empty,b1,b2,b3,b4,0,0,0⟩,l⟩:Ev) ro).over)=>fQ (dK (⟨d,s,1,eQ,⟨ByteArray.empty,b1,b2,b3,b4,0,0,0⟩,l⟩:Ev) ro) ad cap W hs h;by_cases hxe:(iE ro).e=0
      ·have hq1:((iE ro).e == 0)=true:=beq_iff_eq.2 hxe
       have hq2:((iE ro).e != 0)=false:=by rw [bne_eq_false_iff_eq];exact hxe
       cases hok:dm (dK (⟨d,s,1,eQ,⟨ByteArray.empty,b1,b2,b3,b4,0,0,0⟩,l⟩:Ev) ro) with
       | true =>
         have HE:=aq (AU HX.out hxe hok);rw [hok] at iM;have HRt:=aq iM;clear iM hok hxe;go_wp2_with (first
                | (go_at_call 134;(with_reducible refine (HEr.out _ _ hR).mono ?_);rintro x w3 ⟨rfl,rfl⟩)
                | ((with_reducible refine bf _ (w.heap.size+1) (dK (⟨d,s,1,eQ,⟨ByteArray.empty,b1,b2,b3,b4,0,0,0⟩,l⟩:Ev) ro) ad cap hE.cell ?_ rfl ?_);exact rfl)
                | (go_at_call 52;(with_reducible refine (HRt.out _ hd).mono ?_);rintro x w4 ⟨rfl,hb⟩;replace hZ:=hZ.below hb;replace hE:=hE.below hb;replace hR:=hR.below hb;replace hd:=hd.kept hb;replace hF:=hF.again (Fr.of_below hb))
                | (refine wpList_store_row rfl 82 _ _ rfl w.heap.size (az (dK (⟨d,s,1,eQ,⟨ByteArray.empty,b1,b2,b3,b4,0,0,0⟩,l⟩:Ev) ro) ad cap).toArray rfl rfl 82 (az ev0 none 0).toArray hZ (by kernel_rfl) rfl (by kernel_rfl) ?_))
         refine ed 2 82 82 w.heap.size (az (dK (⟨d,s,1,eQ,⟨ByteArray.empty,b1,b2,b3,b4,0,0,0⟩,l⟩:Ev) ro) ad cap).toArray _ rfl rfl (setRow_heap _ _ _ _ _ _ hZ) underlying82 rfl (by kernel_rfl) rfl ?_;rw [HE.out];exact ⟨ad,cap,rfl,hd.setRow _ (fun A off h=>by have:=hdz A off h;omega),hR.setRow (by omega),hF.setRow (bb (ar _)) _,fun A off h=>by have:=hdz A off h;omega⟩
       | false =>
         have HE:=aq (wU HX.out hxe hok);have HFF:Hid (gY (iE ro) 1=⟨(iE ro).b,1⟩):=by unfold Hid gY;rw [if_pos hxe]
         have HFl:=aq (fun (W:World) (h:RdAt W R (iE ro))=>vW R (iE ro) 1 W h);rw [hok] at iM;have HRt:=aq iM;clear iM hok hxe;go_wp2_with (first
                | (go_at_call 134;(with_reducible refine (HEr.out _ _ hR).mono ?_);rintro x w3 ⟨rfl,rfl⟩)
                | ((with_reducible refine bf _ (w.heap.size+1) (dK (⟨d,s,1,eQ,⟨ByteArray.empty,b1,b2,b3,b4,0,0,0⟩,l⟩:Ev) ro) ad cap hE.cell ?_ rfl ?_);exact rfl)
                | (go_at_call 52;(with_reducible refine (HRt.out _ hd).mono ?_);rintro x w4 ⟨rfl,hb⟩;replace hZ:=hZ.below hb;replace hE:=hE.below hb;replace hR:=hR.below hb;replace hd:=hd.kept hb;replace hF:=hF.again (Fr.of_below hb))
                | (go_at_call 176;(with_reducible refine (HFl.out _ hR).mono ?_);rintro x w5 ⟨rfl,hR,hF1⟩;rw [HFF.out] at hR;replace hZ:=hZ.fr hF1 (by omega);replace hF:=hF.again hF1)
                | (refine Great.wpList_buildTo rfl 82 _ rfl _ rfl #[.int .i64 0,.int .i64 0,.int .i64 0,.int .i64 0,.int .i64 0,.int .i64 0,.int .i64 0,.string ⟨#[]⟩,.string ⟨#[]⟩,.string ⟨#[]⟩,.string ⟨#[]⟩,.bool false,.bool false,.bool false,.bool false,.int .i64 0,.int .i64 0,.int .i64 0,.slice none 0 0] (by kernel_rfl) ?_)
                | (refine wpList_store_row rfl 82 _ _ rfl w.heap.size #[.int .i64 0,.int .i64 0,.int .i64 0,.int .i64 0,.int .i64 0,.int .i64 0,.int .i64 0,.string ⟨#[]⟩,.string ⟨#[]⟩,.string ⟨#[]⟩,.string ⟨#[]⟩,.bool false,.bool false,.bool false,.bool false,.int .i64 0,.int .i64 0,.int .i64 0,.slice none 0 0] rfl rfl 82 (az ev0 none 0).toArray hZ (by kernel_rfl) rfl (by kernel_rfl) ?_))
         refine ed 2 82 82 w.heap.size #[.int .i64 0,.int .i64 0,.int .i64 0,.int .i64 0,.int .i64 0,.int .i64 0,.int .i64 0,.string ⟨#[]⟩,.string ⟨#[]⟩,.string ⟨#[]⟩,.string ⟨#[]⟩,.bool false,.bool false,.bool false,.bool false,.int .i64 0,.int .i64 0,.int .i64 0,.slice none 0 0] _ rfl rfl (setRow_heap _ _ _ _ _ _ hZ) underlying82 rfl (by kernel_rfl) rfl ?_;rw [HE.out];exact ⟨none,0,rfl,bb rfl,hR.setRow (by omega),hF.setRow (bb (ar _)) _,fun A off h=>by cases h⟩
      ·have hq1:((iE ro).e == 0)=false:=beq_eq_false_iff_ne.2 hxe
       have hq2:((iE ro).e != 0)=true:=by rw [bne_iff_ne];exact hxe
       exact z4
end Go.Proofs.YthphepeniaemoaaGreat
