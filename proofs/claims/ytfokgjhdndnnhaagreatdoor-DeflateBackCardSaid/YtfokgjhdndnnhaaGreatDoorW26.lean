/- Contracts: own codes, fixed codes. -/
import Derived.Test.YtfokgjhdndnnhaaGreatDoorW24
set_option maxHeartbeats 1000000
set_option linter.unusedVariables false
set_option linter.unusedSimpArgs false
set_option maxRecDepth 20000
noncomputable section W25S
namespace Go.Proofs.YtfokgjhdndnnhaaGreatDoor
open Go Go.Fl Go.Proofs
def fixV (i:Nat):Nat:=if i<144\/280<=i then 8 else if i<256 then 9 else 7
def fixP (f:Nat->Nat) (n i:Nat):List Nat:=(List.range n).map fun s=>if s<i then f s else 0
theorem qan (f:Nat->Nat) (n i:Nat):(fixP f n i).length=n:=by simp[fixP]
theorem qbw (f:Nat->Nat) (n:Nat):fixP f n 0=List.replicate n 0:=by
 apply List.ext_getElem
 ·simp[fixP]
 ·intro i h1 h2
  simp[fixP]
theorem qdj (f:Nat->Nat) (n i:Nat):(fixP f n i).set i (f i)=fixP f n (i+1):=by
 apply List.ext_getElem
 ·simp[fixP]
 ·intro s h1 h2
  rw[List.getElem_set]
  simp only[fixP,List.getElem_map,List.getElem_range]
  by_cases h:i=s
  ·subst h; rw[if_pos rfl,if_pos oz]
  ·rw[if_neg h]
   by_cases h3:s<i
   ·rw[if_pos h3,if_pos oz]
   ·rw[if_neg h3,if_neg oz]
def fixS:List Nat:=fixP fixV 288 288
def fixD:List Nat:=fixP (fun _=>5) 32 32
theorem yM:fixS.length=288:=qan _ _ _
theorem yN:fixD.length=32:=qan _ _ _
theorem qcq (n:Nat) (l:List Nat) (hl:l.length=n) (p:Nat->Bool) (h0:p 0=true) (h:l.all p=true) (s:Nat):p (l.getD s 0)=true:=by
 rw[List.getD_eq_getElem?_getD]
 cases hs:l[s]? with
 | none=>exact h0
 | some v=>exact List.all_eq_true.1 h v (List.mem_of_getElem? hs)
theorem qjn (s:Nat):fixS.getD s 0<=15:=of_decide_eq_true (qcq 288 fixS yM (fun v=>decide (v<=15)) rfl (by decide +kernel) s)
theorem qjo (s:Nat):fixD.getD s 0<=15:=of_decide_eq_true (qcq 32 fixD yN (fun v=>decide (v<=15)) rfl (by decide +kernel) s)
theorem qcr:WholeL fixS:=.inl (by decide +kernel)
theorem qcs:WholeL fixD:=.inl (by decide +kernel)
theorem qgj:LensOk fixS:=⟨by rw[yM]; decide,qjn,qcr⟩
theorem qgk:LensOk fixD:=⟨by rw[yN]; decide,qjo,qcs⟩
theorem qbx {s:Nat} (h:s<288):0<fixS.getD s 0:=by
 have h1:fixS.getD s 0=fixV s:=by
  unfold fixS fixP
  rw[qU (by simpa using h)]
  simp[h]
 rw[h1]
 unfold fixV
 split
 ·decide
 ·split <;> decide
theorem fixD_pos {s:Nat} (h:s<32):0<fixD.getD s 0:=by
 have h1:fixD.getD s 0=5:=by
  unfold fixD fixP
  rw[qU (by simpa using h)]
  simp[h]
 rw[h1]; decide
theorem qby {H:Heap} {A n:Nat} {lens:List Nat} (g:H.get A=some (iV lens)) (hn:lens.length=n) (h0:0<n) (hl:n<=320) (hle : ∀ s,lens.getD s 0<=15) (hwh:WholeL lens):SCalls Tryz.prog 71 [.ms A 0 n 1] H (.tup [tabA lens,.int 0]) (H.del A):=by
 subst hn
 exact qaz (New_s lens h0 hl hle hwh) (by simp[zI]) (by simp[go_sem,zT]) (b:=A) (.cons (Froz.row g (by rw[Heap.get_del,if_pos rfl]) (by rw[qK]; omega) (by rw[List.drop_zero,List.take_of_length_le (by rw[qK]; omega)])) .nil)
theorem qon (l:List Tok) (hl:l.length<=1000000) (hf : ∀ t∈l,TokFine t) (H:Heap):SCalls Tryz.prog 75 [tA l] H (.tup [iA (countedL l).1,iA (countedL l).2]) H:=qO (qoj l hl hf) (by simp[tA_lt]) (by simp[go_sem,zI]) H
def ownX (l:List Tok):List Nat:=lensOf 15 (countedL l).1
def ownY (l:List Tok):List Nat:=lensOf 15 (countedL l).2
theorem qao (l:List Tok):nposL (countedL l).1<=2^15/\nposL (countedL l).2<=2^15:=by
 have h1:=qck (countedL l).1
 have h2:=qck (countedL l).2
 have h3:=jk l
 omega
theorem jA (l:List Tok):GoodL 15 286 (usedL (countedL l).1) (ownX l):=by
 have:=zC (most:=15) (counts:=(countedL l).1) dz dz (qao l).1
 rwa [(jk l).1] at this
theorem jB (l:List Tok):GoodL 15 30 (usedL (countedL l).2) (ownY l):=by
 have:=zC (most:=15) (counts:=(countedL l).2) dz dz (qao l).2
 rwa [(jk l).2] at this
theorem qa8 (l:List Tok):LensOk (ownX l):=⟨by rw[(jA l).len]; decide,(jA l).le,(jA l).whole⟩
theorem qa9 (l:List Tok):LensOk (ownY l):=⟨by rw[(jB l).len]; decide,(jB l).le,(jB l).whole⟩
theorem fixed_s  : SCalls Tryz.prog 43 [] Heap.empty (.agg [tabA fixS,tabA fixD]) Heap.empty:=by
 refine qE (sz:=56) (Tryz.call43) Tryz.func43 rfl (Nat.zero_le _) kz (fun R hR=>?_)
 refine qg (fun K1 hK1=>?_)
 refine qi kz ?_
 simp[go_sem]
 refine hK1 _ _ ?_
 try clear hK1 K1
 refine qw (fun env H2 => ∃ A B,(A≠B/\1<=A/\1<=B)/\env 1 = .ms A 0 288 1/\env 2 = .ms B 0 32 1/\H2.get A=some (iV (List.replicate 288 0))/\H2.get B=some (iV (List.replicate 32 0))/\env 0 = .ptr 0 0/\H2.get 0=some [.sc (.pointer none),.sc (.pointer none)]) ?_ ?_
 ·skip
  refine qo (fun K96 hK96=>?_)
  refine zx mixed ?_
  refine zh 0 1 dz ?_ ?_
  ·skip
   refine qW (bf:=[0,1,1,7]) kz kz ?_
   simp[go_sem,qR,befL,addE,permOps,reE,fnL]
   refine hK96 _ _ ?_
   refine ⟨1,2,⟨dz,dz,dz⟩,gz,gz,?_,?_,?_,?_⟩
   ·simp[go_sem,qR]
   ·simp[go_sem,qR]
   ·simp[go_sem]
   ·simp[go_sem]
  ·skip
   refine zy [1,0,2,3] [1,0,2,3] kz ?_
   refine qW (bf:=[0,1,3,7]) kz kz ?_
   simp[go_sem,qR,befL,addE,permOps,reE,fnL]
   refine hK96 _ _ ?_
   refine ⟨2,1,⟨dz,dz,dz⟩,gz,gz,?_,?_,?_,?_⟩
   ·simp[go_sem,qR]
   ·simp[go_sem,qR]
   ·simp[go_sem]
   ·simp[go_sem]
 rintro env H2 ⟨A,B,⟨hAB,hA0,hB0⟩,eA,eB,gA,gB,e00,g00⟩
 rw[<- qbw fixV] at gA
 rw[<- qbw (fun _=>5)] at gB
 refine qg (fun K3 hK3=>?_)
 refine qg (fun K4 hK4=>?_)
 refine qi kz ?_
 simp[go_sem,eA]
 refine hK4 _ _ ?_
 try clear hK4 K4
 refine qm ?_
 refine qC (Inv:=fun m0 env H2 => ∃ i:Nat,m0=288-i/\i<=288/\env 1 = .ms A 0 288 1/\env 2 = .ms B 0 32 1/\env 12 = .int 288/\env 13 = .int i/\H2.get A=some (iV (fixP fixV 288 i))/\H2.get B=some (iV (fixP (fun _=>5) 32 0))/\env 0 = .ptr 0 0/\H2.get 0=some [.sc (.pointer none),.sc (.pointer none)]) ?_ (n:=288) (⟨0,rfl,oz,by simp[go_sem,eA],by simp[go_sem,eB],gz,gz,gA,gB,by simp[go_sem,e00],g00⟩)
 clear eA eB gA gB e00 g00
 rintro m0 env H2 ⟨i,rfl,hi,eA,eB,en,ec,gA,gB,e00,g00⟩
 refine qg (fun K5 hK5=>?_)
 refine qi kz ?_
 simp[go_sem,en,ec]
 refine hK5 _ _ ?_
 try clear hK5 K5
 refine qg (fun K6 hK6=>?_)
 have h288:((i:Int)<288)=(i<288):=propext ⟨fun h=>by omega,fun h=>by omega⟩
 refine qj (b:=decide (i<288)) (by simp[go_sem,h288]) (fun hb=>?_) (fun hb=>?_)
 ·skip
  simp only[decide_eq_true_eq] at hb
  have hin:(i:Int)<288:=oz
  have hi1:i+1<=288:=oz
  have hoL:(iV (fixP fixV 288 i)).length=288:=by rw[qK,qan]
  have hfs:=qdj fixV 288 i
  obtain ⟨cs,hcs⟩ : ∃ z,fixP fixV 288 i=z:=⟨_,rfl⟩
  rw[hcs] at gA hoL hfs
  have hcsl:i<cs.length:=by rw[qK] at hoL; omega
  have hst:=fun v=>zA cs i hcsl v
  have hst_8:=hst 8
  have hst_9:=hst 9
  have hst_7:=hst 7
  push_cast at hst_8 hst_9 hst_7
  have h144:((i:Int)<144)=(i<144):=propext ⟨fun h=>by omega,fun h=>by omega⟩
  have h280:((280:Int)<=(i:Int))=(280<=i):=propext ⟨fun h=>by omega,fun h=>by omega⟩
  have h256:((i:Int)<256)=(i<256):=propext ⟨fun h=>by omega,fun h=>by omega⟩
  have hfin : ∀ v,fixV i=v->(H2.set A (iV (cs.set i v))).get A=some (iV (fixP fixV 288 (i+1))):=fun v hv=>by rw[Heap.get_set,if_pos rfl,gA,<- hfs,hv]; rfl
  have hfB : ∀ v,(H2.set A (iV (cs.set i v))).get B=some (iV (fixP (fun _=>5) 32 0)):=fun v=>by rw[Heap.get_set,if_neg (Ne.symm hAB)]; exact gB
  have hf0 : ∀ v,(H2.set A (iV (cs.set i v))).get 0=some [.sc (.pointer none),.sc (.pointer none)]:=fun v=>by rw[Heap.get_set,if_neg oz]; exact g00
  refine ql ?_
  refine hK6 _ _ ?_
  try clear hK6 K6
  refine qw (fun env H2=>(env 1 = .ms A 0 288 1/\env 2 = .ms B 0 32 1/\env 12 = .int 288/\env 13 = .int i)/\H2.get A=some (iV (fixP fixV 288 (i+1)))/\H2.get B=some (iV (fixP (fun _=>5) 32 0))/\env 0 = .ptr 0 0/\H2.get 0=some [.sc (.pointer none),.sc (.pointer none)]) ?_ ?_
  ·skip
   refine qm ?_
   refine qg (fun K8 hK8=>?_)
   refine qi kz ?_
   simp[go_sem,ec]
   refine hK8 _ _ ?_
   try clear hK8 K8
   refine qm ?_
   refine qw (fun env H3=>(env 1 = .ms A 0 288 1/\env 2 = .ms B 0 32 1/\env 3 = .int i/\env 12 = .int 288/\env 13 = .int i/\env 19 = .bool (decide (i<144\/280<=i)))/\H2=H3/\env 0 = .ptr 0 0) ?_ ?_
   ·skip
    refine qg (fun K10 hK10=>?_)
    refine qi kz ?_
    simp[go_sem,h144]
    refine hK10 _ _ ?_
    try clear hK10 K10
    refine qj (b:=decide (i<144)) (by simp[go_sem,h144]) (fun hb=>?_) (fun hb=>?_)
    ·skip
     simp only[decide_eq_true_eq] at hb
     refine ql ?_
     exact ⟨⟨by simp[go_sem,eA],by simp[go_sem,eB],gz,by simp[go_sem,en],by simp[go_sem,ec],by simp[go_sem,h144,h280,hb]⟩,rfl,by simp[go_sem,e00]⟩
    ·skip
     simp only[decide_eq_false_iff_not] at hb
     refine qo (fun K11 hK11=>?_)
     refine qi kz ?_
     simp[go_sem,h280]
     refine hK11 _ _ ?_
     exact ⟨⟨by simp[go_sem,eA],by simp[go_sem,eB],gz,by simp[go_sem,en],by simp[go_sem,ec],by simp[go_sem,h144,h280,hb]⟩,rfl,by simp[go_sem,e00]⟩
   clear eA eB en ec e00
   rintro env _ ⟨⟨eA,eB,ei,en,ec,et⟩,rfl,e00⟩
   refine qj (b:=decide (i<144\/280<=i)) (by simp[go_sem,et]) (fun hb=>?_) (fun hb=>?_)
   ·skip
    simp only[decide_eq_true_eq] at hb
    refine qo (fun K12 hK12=>?_)
    refine qi kz ?_
    simp[go_sem,eA,ei,gA,hoL,hin,hi1,hst_8]
    refine hK12 _ _ ?_
    refine ⟨⟨by simp[go_sem,eA],by simp[go_sem,eB],by simp[go_sem,en],by simp[go_sem,ec]⟩,hfin _ ?_,hfB _,by simp[go_sem,e00],hf0 _⟩
    unfold fixV
    first
     | rw[if_pos (by simpa using hb)]
     | (rw[if_neg (by simpa using hq),if_pos hb])
     | (rw[if_neg (by simpa using hq),if_neg hb])
   ·skip
    simp only[decide_eq_false_iff_not] at hb
    have hq:=hb
    refine qg (fun K13 hK13=>?_)
    refine qi kz ?_
    simp[go_sem,ei,h256]
    refine hK13 _ _ ?_
    try clear hK13 K13
    refine qj (b:=decide (i<256)) (by simp[go_sem,h256]) (fun hb=>?_) (fun hb=>?_)
    ·skip
     simp only[decide_eq_true_eq] at hb
     refine qo (fun K14 hK14=>?_)
     refine qi kz ?_
     simp[go_sem,eA,ei,gA,hoL,hin,hi1,hst_9]
     refine hK14 _ _ ?_
     refine ⟨⟨by simp[go_sem,eA],by simp[go_sem,eB],by simp[go_sem,en],by simp[go_sem,ec]⟩,hfin _ ?_,hfB _,by simp[go_sem,e00],hf0 _⟩
     unfold fixV
     first
      | rw[if_pos (by simpa using hb)]
      | (rw[if_neg (by simpa using hq),if_pos hb])
      | (rw[if_neg (by simpa using hq),if_neg hb])
    ·skip
     simp only[decide_eq_false_iff_not] at hb
     refine qo (fun K15 hK15=>?_)
     refine qi kz ?_
     simp[go_sem,eA,ei,gA,hoL,hin,hi1,hst_7]
     refine hK15 _ _ ?_
     refine ⟨⟨by simp[go_sem,eA],by simp[go_sem,eB],by simp[go_sem,en],by simp[go_sem,ec]⟩,hfin _ ?_,hfB _,by simp[go_sem,e00],hf0 _⟩
     unfold fixV
     first
      | rw[if_pos (by simpa using hb)]
      | (rw[if_neg (by simpa using hq),if_pos hb])
      | (rw[if_neg (by simpa using hq),if_neg hb])
  clear eA eB en ec gA gB hfin hfB e00 g00 hf0
  rintro env H2 ⟨⟨eA,eB,en,ec⟩,gA,gB,e00,g00⟩
  refine qo (fun K16 hK16=>?_)
  refine qi kz ?_
  simp[go_sem,ec]
  refine hK16 _ _ ?_
  have hw1:=qF i oz
  exact ⟨288-(i+1),oz,i+1,rfl,oz,by simp[go_sem,eA],by simp[go_sem,eB],by simp[go_sem,en],by simp[go_sem,hw1],gA,gB,by simp[go_sem,e00],g00⟩
 ·skip
  simp only[decide_eq_false_iff_not] at hb
  obtain rfl:i=288:=oz
  have gA:H2.get A=some (iV fixS):=gA
  refine qy ?_
  refine hK3 _ _ ?_
  try clear hK3 K3
  refine qg (fun K17 hK17=>?_)
  refine qg (fun K18 hK18=>?_)
  refine qi kz ?_
  simp[go_sem,eB]
  refine hK18 _ _ ?_
  try clear hK18 K18
  refine qm ?_
  refine qC (Inv:=fun m0 env H2 => ∃ i:Nat,m0=32-i/\i<=32/\env 1 = .ms A 0 288 1/\env 2 = .ms B 0 32 1/\env 35 = .int 32/\env 36 = .int i/\H2.get A=some (iV fixS)/\H2.get B=some (iV (fixP (fun _=>5) 32 i))/\env 0 = .ptr 0 0/\H2.get 0=some [.sc (.pointer none),.sc (.pointer none)]) ?_ (n:=32) (⟨0,rfl,oz,by simp[go_sem,eA],by simp[go_sem,eB],gz,gz,gA,gB,by simp[go_sem,e00],g00⟩)
  clear eA eB en ec gA gB e00 g00
  rintro m0 env H2 ⟨i,rfl,hi,eA,eB,en,ec,gA,gB,e00,g00⟩
  refine qg (fun K19 hK19=>?_)
  refine qi kz ?_
  simp[go_sem,en,ec]
  refine hK19 _ _ ?_
  try clear hK19 K19
  refine qg (fun K20 hK20=>?_)
  have h32:((i:Int)<32)=(i<32):=propext ⟨fun h=>by omega,fun h=>by omega⟩
  refine qj (b:=decide (i<32)) (by simp[go_sem,h32]) (fun hb=>?_) (fun hb=>?_)
  ·skip
   simp only[decide_eq_true_eq] at hb
   have hin:(i:Int)<32:=oz
   have hi1:i+1<=32:=oz
   have hoL:(iV (fixP (fun _=>5) 32 i)).length=32:=by rw[qK,qan]
   have hfs:=qdj (fun _=>5) 32 i
   obtain ⟨cs,hcs⟩ : ∃ z,fixP (fun _=>5) 32 i=z:=⟨_,rfl⟩
   rw[hcs] at gB hoL hfs
   have hcsl:i<cs.length:=by rw[qK] at hoL; omega
   have hst_5:=zA cs i hcsl 5
   push_cast at hst_5
   have hfB:(H2.set B (iV (cs.set i 5))).get B=some (iV (fixP (fun _=>5) 32 (i+1))):=by rw[Heap.get_set,if_pos rfl,gB,<- hfs]; rfl
   have hfA:(H2.set B (iV (cs.set i 5))).get A=some (iV fixS):=by rw[Heap.get_set,if_neg hAB]; exact gA
   have hf0:(H2.set B (iV (cs.set i 5))).get 0=some [.sc (.pointer none),.sc (.pointer none)]:=by rw[Heap.get_set,if_neg oz]; exact g00
   refine ql ?_
   refine hK20 _ _ ?_
   try clear hK20 K20
   refine qg (fun K21 hK21=>?_)
   refine qm ?_
   refine qg (fun K22 hK22=>?_)
   refine qi kz ?_
   simp[go_sem,ec]
   refine hK22 _ _ ?_
   try clear hK22 K22
   refine qi kz ?_
   simp[go_sem,eB,ec,gB,hoL,hin,hi1,hst_5]
   refine hK21 _ _ ?_
   try clear hK21 K21
   refine qo (fun K23 hK23=>?_)
   refine qi kz ?_
   simp[go_sem,ec]
   refine hK23 _ _ ?_
   have hw1:=qF i oz
   exact ⟨32-(i+1),oz,i+1,rfl,oz,by simp[go_sem,eA],by simp[go_sem,eB],by simp[go_sem,en],by simp[go_sem,hw1],hfA,hfB,by simp[go_sem,e00],hf0⟩
  ·skip
   simp only[decide_eq_false_iff_not] at hb
   obtain rfl:i=32:=oz
   have gB:H2.get B=some (iV fixD):=gB
   have cX:=qby gA yM dz dz qjn qcr
   have gB2:(H2.del A).get B=some (iV fixD):=by rw[Heap.get_del,if_neg (Ne.symm hAB)]; exact gB
   have cY:=qby gB2 yN dz dz qjo qcs
   have g02:((H2.del A).del B).get 0=some [.sc (.pointer none),.sc (.pointer none)]:=by rw[Heap.get_del,if_neg oz,Heap.get_del,if_neg oz]; exact g00
   refine qy ?_
   refine hK17 _ _ ?_
   try clear hK17 K17
   refine qg (fun K24 hK24=>?_)
   refine qi kz ?_
   refine qI 2 (fun K25 hK25=>?_)
   simp[go_sem,eA]
   refine ⟨_,_,cX,?_⟩
   refine hK25 _ _ ?_
   clear hK25 K25
   simp[go_sem,eA]
   refine hK24 _ _ ?_
   try clear hK24 K24
   refine qg (fun K26 hK26=>?_)
   refine qi kz ?_
   refine qI 2 (fun K27 hK27=>?_)
   simp[go_sem,eB]
   refine ⟨_,_,cY,?_⟩
   refine hK27 _ _ ?_
   clear hK27 K27
   simp[go_sem,eB]
   refine hK26 _ _ ?_
   try clear hK26 K26
   refine qg (fun K28 hK28=>?_)
   refine qi kz ?_
   simp[go_sem,e00,g02,tabA]
   refine hK28 _ _ ?_
   try clear hK28 K28
   refine qx ?_
   simp only[go_sem]
   refine hR _ _ ?_
   refine zD (v:=.agg [tabA fixS,tabA fixD]) (by simp[go_sem,e00,g02,tabA]) (.same _) (qP _) (Nat.zero_le _) (by simp[go_sem,zT])
theorem qh9  : SCalls Tryz.prog 54 [] Heap.empty (.tup [tabA fixS,tabA fixD]) Heap.empty:=by
 refine qE (sz:=56) (Tryz.call54) Tryz.func54 rfl (Nat.zero_le _) kz (fun R hR=>?_)
 refine qg (fun K1 hK1=>?_)
 refine qi kz ?_
 simp[go_sem]
 refine hK1 _ _ ?_
 try clear hK1 K1
 refine qw (fun env H2 => ∃ A B,(A≠B/\0<=A/\0<=B)/\env 2 = .ms A 0 288 1/\env 3 = .ms B 0 32 1/\H2.get A=some (iV (List.replicate 288 0))/\H2.get B=some (iV (List.replicate 32 0))) ?_ ?_
 ·skip
  refine qo (fun K96 hK96=>?_)
  refine zx mixed ?_
  refine zh 0 1 dz ?_ ?_
  ·skip
   refine qW (bf:=[0,1,1,7]) kz kz ?_
   simp[go_sem,qR,befL,addE,permOps,reE,fnL]
   refine hK96 _ _ ?_
   refine ⟨0,1,⟨dz,dz,dz⟩,gz,gz,?_,?_⟩
   ·simp[go_sem,qR]
   ·simp[go_sem,qR]
  ·skip
   refine zy [1,0,2,3] [1,0,2,3] kz ?_
   refine qW (bf:=[0,1,3,7]) kz kz ?_
   simp[go_sem,qR,befL,addE,permOps,reE,fnL]
   refine hK96 _ _ ?_
   refine ⟨1,0,⟨dz,dz,dz⟩,gz,gz,?_,?_⟩
   ·simp[go_sem,qR]
   ·simp[go_sem,qR]
 rintro env H2 ⟨A,B,⟨hAB,hA0,hB0⟩,eA,eB,gA,gB⟩
 rw[<- qbw fixV] at gA
 rw[<- qbw (fun _=>5)] at gB
 refine qg (fun K3 hK3=>?_)
 refine qg (fun K4 hK4=>?_)
 refine qi kz ?_
 simp[go_sem,eA]
 refine hK4 _ _ ?_
 try clear hK4 K4
 refine qm ?_
 refine qC (Inv:=fun m0 env H2 => ∃ i:Nat,m0=288-i/\i<=288/\env 2 = .ms A 0 288 1/\env 3 = .ms B 0 32 1/\env 13 = .int 288/\env 14 = .int i/\H2.get A=some (iV (fixP fixV 288 i))/\H2.get B=some (iV (fixP (fun _=>5) 32 0))) ?_ (n:=288) (⟨0,rfl,oz,by simp[go_sem,eA],by simp[go_sem,eB],gz,gz,gA,gB⟩)
 clear eA eB gA gB
 rintro m0 env H2 ⟨i,rfl,hi,eA,eB,en,ec,gA,gB⟩
 refine qg (fun K5 hK5=>?_)
 refine qi kz ?_
 simp[go_sem,en,ec]
 refine hK5 _ _ ?_
 try clear hK5 K5
 refine qg (fun K6 hK6=>?_)
 have h288:((i:Int)<288)=(i<288):=propext ⟨fun h=>by omega,fun h=>by omega⟩
 refine qj (b:=decide (i<288)) (by simp[go_sem,h288]) (fun hb=>?_) (fun hb=>?_)
 ·skip
  simp only[decide_eq_true_eq] at hb
  have hin:(i:Int)<288:=oz
  have hi1:i+1<=288:=oz
  have hoL:(iV (fixP fixV 288 i)).length=288:=by rw[qK,qan]
  have hfs:=qdj fixV 288 i
  obtain ⟨cs,hcs⟩ : ∃ z,fixP fixV 288 i=z:=⟨_,rfl⟩
  rw[hcs] at gA hoL hfs
  have hcsl:i<cs.length:=by rw[qK] at hoL; omega
  have hst:=fun v=>zA cs i hcsl v
  have hst_8:=hst 8
  have hst_9:=hst 9
  have hst_7:=hst 7
  push_cast at hst_8 hst_9 hst_7
  have h144:((i:Int)<144)=(i<144):=propext ⟨fun h=>by omega,fun h=>by omega⟩
  have h280:((280:Int)<=(i:Int))=(280<=i):=propext ⟨fun h=>by omega,fun h=>by omega⟩
  have h256:((i:Int)<256)=(i<256):=propext ⟨fun h=>by omega,fun h=>by omega⟩
  have hfin : ∀ v,fixV i=v->(H2.set A (iV (cs.set i v))).get A=some (iV (fixP fixV 288 (i+1))):=fun v hv=>by rw[Heap.get_set,if_pos rfl,gA,<- hfs,hv]; rfl
  have hfB : ∀ v,(H2.set A (iV (cs.set i v))).get B=some (iV (fixP (fun _=>5) 32 0)):=fun v=>by rw[Heap.get_set,if_neg (Ne.symm hAB)]; exact gB
  refine ql ?_
  refine hK6 _ _ ?_
  try clear hK6 K6
  refine qw (fun env H2=>(env 2 = .ms A 0 288 1/\env 3 = .ms B 0 32 1/\env 13 = .int 288/\env 14 = .int i)/\H2.get A=some (iV (fixP fixV 288 (i+1)))/\H2.get B=some (iV (fixP (fun _=>5) 32 0))) ?_ ?_
  ·skip
   refine qm ?_
   refine qg (fun K8 hK8=>?_)
   refine qi kz ?_
   simp[go_sem,ec]
   refine hK8 _ _ ?_
   try clear hK8 K8
   refine qm ?_
   refine qw (fun env H3=>(env 2 = .ms A 0 288 1/\env 3 = .ms B 0 32 1/\env 4 = .int i/\env 13 = .int 288/\env 14 = .int i/\env 20 = .bool (decide (i<144\/280<=i)))/\H2=H3) ?_ ?_
   ·skip
    refine qg (fun K10 hK10=>?_)
    refine qi kz ?_
    simp[go_sem,h144]
    refine hK10 _ _ ?_
    try clear hK10 K10
    refine qj (b:=decide (i<144)) (by simp[go_sem,h144]) (fun hb=>?_) (fun hb=>?_)
    ·skip
     simp only[decide_eq_true_eq] at hb
     refine ql ?_
     exact ⟨⟨by simp[go_sem,eA],by simp[go_sem,eB],gz,by simp[go_sem,en],by simp[go_sem,ec],by simp[go_sem,h144,h280,hb]⟩,rfl⟩
    ·skip
     simp only[decide_eq_false_iff_not] at hb
     refine qo (fun K11 hK11=>?_)
     refine qi kz ?_
     simp[go_sem,h280]
     refine hK11 _ _ ?_
     exact ⟨⟨by simp[go_sem,eA],by simp[go_sem,eB],gz,by simp[go_sem,en],by simp[go_sem,ec],by simp[go_sem,h144,h280,hb]⟩,rfl⟩
   clear eA eB en ec
   rintro env _ ⟨⟨eA,eB,ei,en,ec,et⟩,rfl⟩
   refine qj (b:=decide (i<144\/280<=i)) (by simp[go_sem,et]) (fun hb=>?_) (fun hb=>?_)
   ·skip
    simp only[decide_eq_true_eq] at hb
    refine qo (fun K12 hK12=>?_)
    refine qi kz ?_
    simp[go_sem,eA,ei,gA,hoL,hin,hi1,hst_8]
    refine hK12 _ _ ?_
    refine ⟨⟨by simp[go_sem,eA],by simp[go_sem,eB],by simp[go_sem,en],by simp[go_sem,ec]⟩,hfin _ ?_,hfB _⟩
    unfold fixV
    first
     | rw[if_pos (by simpa using hb)]
     | (rw[if_neg (by simpa using hq),if_pos hb])
     | (rw[if_neg (by simpa using hq),if_neg hb])
   ·skip
    simp only[decide_eq_false_iff_not] at hb
    have hq:=hb
    refine qg (fun K13 hK13=>?_)
    refine qi kz ?_
    simp[go_sem,ei,h256]
    refine hK13 _ _ ?_
    try clear hK13 K13
    refine qj (b:=decide (i<256)) (by simp[go_sem,h256]) (fun hb=>?_) (fun hb=>?_)
    ·skip
     simp only[decide_eq_true_eq] at hb
     refine qo (fun K14 hK14=>?_)
     refine qi kz ?_
     simp[go_sem,eA,ei,gA,hoL,hin,hi1,hst_9]
     refine hK14 _ _ ?_
     refine ⟨⟨by simp[go_sem,eA],by simp[go_sem,eB],by simp[go_sem,en],by simp[go_sem,ec]⟩,hfin _ ?_,hfB _⟩
     unfold fixV
     first
      | rw[if_pos (by simpa using hb)]
      | (rw[if_neg (by simpa using hq),if_pos hb])
      | (rw[if_neg (by simpa using hq),if_neg hb])
    ·skip
     simp only[decide_eq_false_iff_not] at hb
     refine qo (fun K15 hK15=>?_)
     refine qi kz ?_
     simp[go_sem,eA,ei,gA,hoL,hin,hi1,hst_7]
     refine hK15 _ _ ?_
     refine ⟨⟨by simp[go_sem,eA],by simp[go_sem,eB],by simp[go_sem,en],by simp[go_sem,ec]⟩,hfin _ ?_,hfB _⟩
     unfold fixV
     first
      | rw[if_pos (by simpa using hb)]
      | (rw[if_neg (by simpa using hq),if_pos hb])
      | (rw[if_neg (by simpa using hq),if_neg hb])
  clear eA eB en ec gA gB hfin hfB
  rintro env H2 ⟨⟨eA,eB,en,ec⟩,gA,gB⟩
  refine qo (fun K16 hK16=>?_)
  refine qi kz ?_
  simp[go_sem,ec]
  refine hK16 _ _ ?_
  have hw1:=qF i oz
  exact ⟨288-(i+1),oz,i+1,rfl,oz,by simp[go_sem,eA],by simp[go_sem,eB],by simp[go_sem,en],by simp[go_sem,hw1],gA,gB⟩
 ·skip
  simp only[decide_eq_false_iff_not] at hb
  obtain rfl:i=288:=oz
  have gA:H2.get A=some (iV fixS):=gA
  refine qy ?_
  refine hK3 _ _ ?_
  try clear hK3 K3
  refine qg (fun K17 hK17=>?_)
  refine qg (fun K18 hK18=>?_)
  refine qi kz ?_
  simp[go_sem,eB]
  refine hK18 _ _ ?_
  try clear hK18 K18
  refine qm ?_
  refine qC (Inv:=fun m0 env H2 => ∃ i:Nat,m0=32-i/\i<=32/\env 2 = .ms A 0 288 1/\env 3 = .ms B 0 32 1/\env 36 = .int 32/\env 37 = .int i/\H2.get A=some (iV fixS)/\H2.get B=some (iV (fixP (fun _=>5) 32 i))) ?_ (n:=32) (⟨0,rfl,oz,by simp[go_sem,eA],by simp[go_sem,eB],gz,gz,gA,gB⟩)
  clear eA eB en ec gA gB
  rintro m0 env H2 ⟨i,rfl,hi,eA,eB,en,ec,gA,gB⟩
  refine qg (fun K19 hK19=>?_)
  refine qi kz ?_
  simp[go_sem,en,ec]
  refine hK19 _ _ ?_
  try clear hK19 K19
  refine qg (fun K20 hK20=>?_)
  have h32:((i:Int)<32)=(i<32):=propext ⟨fun h=>by omega,fun h=>by omega⟩
  refine qj (b:=decide (i<32)) (by simp[go_sem,h32]) (fun hb=>?_) (fun hb=>?_)
  ·skip
   simp only[decide_eq_true_eq] at hb
   have hin:(i:Int)<32:=oz
   have hi1:i+1<=32:=oz
   have hoL:(iV (fixP (fun _=>5) 32 i)).length=32:=by rw[qK,qan]
   have hfs:=qdj (fun _=>5) 32 i
   obtain ⟨cs,hcs⟩ : ∃ z,fixP (fun _=>5) 32 i=z:=⟨_,rfl⟩
   rw[hcs] at gB hoL hfs
   have hcsl:i<cs.length:=by rw[qK] at hoL; omega
   have hst_5:=zA cs i hcsl 5
   push_cast at hst_5
   have hfB:(H2.set B (iV (cs.set i 5))).get B=some (iV (fixP (fun _=>5) 32 (i+1))):=by rw[Heap.get_set,if_pos rfl,gB,<- hfs]; rfl
   have hfA:(H2.set B (iV (cs.set i 5))).get A=some (iV fixS):=by rw[Heap.get_set,if_neg hAB]; exact gA
   refine ql ?_
   refine hK20 _ _ ?_
   try clear hK20 K20
   refine qg (fun K21 hK21=>?_)
   refine qm ?_
   refine qg (fun K22 hK22=>?_)
   refine qi kz ?_
   simp[go_sem,ec]
   refine hK22 _ _ ?_
   try clear hK22 K22
   refine qi kz ?_
   simp[go_sem,eB,ec,gB,hoL,hin,hi1,hst_5]
   refine hK21 _ _ ?_
   try clear hK21 K21
   refine qo (fun K23 hK23=>?_)
   refine qi kz ?_
   simp[go_sem,ec]
   refine hK23 _ _ ?_
   have hw1:=qF i oz
   exact ⟨32-(i+1),oz,i+1,rfl,oz,by simp[go_sem,eA],by simp[go_sem,eB],by simp[go_sem,en],by simp[go_sem,hw1],hfA,hfB⟩
  ·skip
   simp only[decide_eq_false_iff_not] at hb
   obtain rfl:i=32:=oz
   have gB:H2.get B=some (iV fixD):=gB
   have cX:=qby gA yM dz dz qjn qcr
   have gB2:(H2.del A).get B=some (iV fixD):=by rw[Heap.get_del,if_neg (Ne.symm hAB)]; exact gB
   have cY:=qby gB2 yN dz dz qjo qcs
   refine qy ?_
   refine hK17 _ _ ?_
   try clear hK17 K17
   refine qg (fun K24 hK24=>?_)
   refine qi kz ?_
   refine qI 2 (fun K25 hK25=>?_)
   simp[go_sem,eA]
   refine ⟨_,_,cX,?_⟩
   refine hK25 _ _ ?_
   clear hK25 K25
   simp[go_sem,eA]
   refine hK24 _ _ ?_
   try clear hK24 K24
   refine qg (fun K26 hK26=>?_)
   refine qi kz ?_
   refine qI 2 (fun K27 hK27=>?_)
   simp[go_sem,eB]
   refine ⟨_,_,cY,?_⟩
   refine hK27 _ _ ?_
   clear hK27 K27
   simp[go_sem,eB]
   refine hK26 _ _ ?_
   try clear hK26 K26
   refine qg (fun K28 hK28=>?_)
   refine qi kz ?_
   simp[go_sem,tabA]
   refine hK28 _ _ ?_
   try clear hK28 K28
   refine qx ?_
   simp only[go_sem]
   refine hR _ _ ?_
   refine zD (v:=.tup [tabA fixS,tabA fixD]) (by simp[go_sem,tabA]) (.same _) (qP _) (Nat.zero_le _) (by simp[go_sem,zT])
end Go.Proofs.YtfokgjhdndnnhaaGreatDoor
end W25S
set_option maxRecDepth 20000
noncomputable section W26S
namespace Go.Proofs.YtfokgjhdndnnhaaGreatDoor
open Go Go.Fl Go.Proofs
theorem own_s (l:List Tok) (hl:l.length<=1000000) (hf : ∀ t∈l,TokFine t):SCalls Tryz.prog 46 [tA l] Heap.empty (.tup [iA (ownX l),iA (ownY l),.agg [tabA (ownX l),tabA (ownY l)],.bool true]) Heap.empty:=by
 have hcl:=jk l
 have hcle:=fun j=>qfl l j
 have hnp:=qao l
 have hgx:=(jA l).len
 have hgy:=(jB l).len
 have cc:=fun H=>qon l hl hf H
 have cA:=fun H=>Lengths_H (countedL l).1 15 oz oz dz dz (fun i=>by have:=(hcle i).1; omega) hnp.1 H
 have cB:=fun H=>Lengths_H (countedL l).2 15 oz oz dz dz (fun i=>by have:=(hcle i).2; omega) hnp.2 H
 have cX:=fun H=>New_H (ownX l) oz oz (qa8 l).le (qa8 l).whole H
 have cY:=fun H=>New_H (ownY l) oz oz (qa9 l).le (qa9 l).whole H
 rw[show lensOf 15 (countedL l).1=ownX l from rfl] at cA
 rw[show lensOf 15 (countedL l).2=ownY l from rfl] at cB
 obtain ⟨xa,hxa⟩ : ∃ z,iA (countedL l).1=z:=⟨_,rfl⟩
 obtain ⟨xb,hxb⟩ : ∃ z,iA (countedL l).2=z:=⟨_,rfl⟩
 rw[hxa] at cc cA
 rw[hxb] at cc cB
 have hlx:=zI (ownX l)
 have hly:=zI (ownY l)
 have htx:=zT (ownX l)
 have hty:=zT (ownY l)
 obtain ⟨ya,hya⟩ : ∃ z,iA (ownX l)=z:=⟨_,rfl⟩
 obtain ⟨yb,hyb⟩ : ∃ z,iA (ownY l)=z:=⟨_,rfl⟩
 obtain ⟨cx,hcx⟩ : ∃ z,tabC (ownX l)=z:=⟨_,rfl⟩
 obtain ⟨cy,hcy⟩ : ∃ z,tabC (ownY l)=z:=⟨_,rfl⟩
 have hza:tabA (ownX l) = .ep cx:=by unfold tabA; rw[hcx]
 have hzb:tabA (ownY l) = .ep cy:=by unfold tabA; rw[hcy]
 rw[hya] at cA cX hlx |-
 rw[hyb] at cB cY hly |-
 rw[hza] at cX htx |-
 rw[hzb] at cY hty |-
 refine qE (sz:=57) (Tryz.call46) Tryz.func46 rfl (Nat.zero_le _) kz (fun R hR=>?_)
 refine qg (fun K1 hK1=>?_)
 refine qi kz ?_
 simp[go_sem]
 refine hK1 _ _ ?_
 try clear hK1 K1
 refine qg (fun K2 hK2=>?_)
 refine qi kz ?_
 refine qI 2 (fun K3 hK3=>?_)
 simp[go_sem]
 refine ⟨_,_,cc _,?_⟩
 refine hK3 _ _ ?_
 clear hK3 K3
 simp[go_sem]
 refine hK2 _ _ ?_
 try clear hK2 K2
 refine qg (fun K4 hK4=>?_)
 refine qi kz ?_
 refine qI 2 (fun K5 hK5=>?_)
 simp[go_sem]
 refine ⟨_,_,cA _,?_⟩
 refine hK5 _ _ ?_
 clear hK5 K5
 simp[go_sem]
 refine hK4 _ _ ?_
 try clear hK4 K4
 refine qg (fun K6 hK6=>?_)
 refine qi kz ?_
 refine qI 2 (fun K7 hK7=>?_)
 simp[go_sem]
 refine ⟨_,_,cB _,?_⟩
 refine hK7 _ _ ?_
 clear hK7 K7
 simp[go_sem]
 refine hK6 _ _ ?_
 try clear hK6 K6
 refine qg (fun K8 hK8=>?_)
 refine qg (fun K9 hK9=>?_)
 refine qi kz ?_
 simp[go_sem]
 refine hK9 _ _ ?_
 try clear hK9 K9
 refine qj (b:=false) gz (fun h=>by cases h) (fun _=>?_)
 refine ql ?_
 refine hK8 _ _ ?_
 try clear hK8 K8
 refine qg (fun K10 hK10=>?_)
 refine qi kz ?_
 refine qI 2 (fun K11 hK11=>?_)
 simp[go_sem]
 refine ⟨_,_,cX _,?_⟩
 refine hK11 _ _ ?_
 clear hK11 K11
 simp[go_sem]
 refine hK10 _ _ ?_
 try clear hK10 K10
 refine qg (fun K12 hK12=>?_)
 refine qi kz ?_
 refine qI 2 (fun K13 hK13=>?_)
 simp[go_sem]
 refine ⟨_,_,cY _,?_⟩
 refine hK13 _ _ ?_
 clear hK13 K13
 simp[go_sem]
 refine hK12 _ _ ?_
 try clear hK12 K12
 refine qg (fun K14 hK14=>?_)
 refine qi kz ?_
 simp[go_sem]
 refine hK14 _ _ ?_
 try clear hK14 K14
 refine qx ?_
 simp only[go_sem]
 refine hR _ _ ?_
 refine zD (v:=.tup [ya,yb,.agg [.ep cx,.ep cy],.bool true]) gz (.same _) (qP _) (Nat.zero_le _) ?_
 refine .tup ?_
 intro z hz
 simp only[List.mem_cons,List.not_mem_nil,or_false] at hz
 rcases hz with rfl | rfl | rfl | rfl
 ·rw[hlx]; trivial
 ·rw[hly]; trivial
 ·exact .agg (by intro z hz; simp only[List.mem_cons,List.not_mem_nil,or_false] at hz; rcases hz with rfl | rfl; rw[htx]; trivial; rw[hty]; trivial)
 ·exact .sc _
end Go.Proofs.YtfokgjhdndnnhaaGreatDoor
end W26S
