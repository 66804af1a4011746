/- What the document's inflater owns; rows that are small. -/
import Derived.Test.YtfokgjhdndnnhaaGreatDoorX14
import Derived.Test.YtfokgjhdndnnhaaGreatDoorX12
import Derived.Test.YtfokgjhdndnnhaaGreatDoorB2
import Derived.Test.YtfokgjhdndnnhaaGreatDoorFl41
set_option maxHeartbeats 4000000
set_option linter.unusedVariables false
set_option linter.unusedSimpArgs false
set_option maxRecDepth 20000
noncomputable section X15S
namespace Go.Proofs.YtfokgjhdndnnhaaGreatDoor
open Go Go.Fl Go.Proofs
theorem qht {hm h:List UInt8} (x:List UInt8) (e:lastW hm=h):lastW (hm++x)=lastW (h++x):=by
 subst e
 rcases Nat.lt_or_ge 32768 hm.length with hl | hl
 ·have h1:(lastW hm).length=32768:=by rw[yD]; omega
  have h2:lastW (hm++x)=(hm++x).drop (hm.length+x.length-32768):=by unfold lastW; rw[List.length_append]
  have h3:lastW (lastW hm++x)=(lastW hm++x).drop x.length:=by
   show (lastW hm++x).drop ((lastW hm++x).length-32768)=_
   rw[List.length_append,h1,Nat.add_sub_cancel_left]
  have h4:lastW hm=hm.drop (hm.length-32768):=rfl
  rw[h2,h3,h4,show hm.length+x.length-32768=(hm.length-32768)+x.length by omega,<- List.drop_drop,List.drop_append_of_le_length oz]
 ·have:lastW hm=hm:=by
   show hm.drop (hm.length-32768)=hm
   rw[show hm.length-32768=0 by omega]; rfl
  rw[this]
theorem qmc {h x:List UInt8} : lastW (lastW (h++x))=lastW (h++x):=by
 have:=qht (hm:=h++x) [] rfl
 rw[List.append_nil,List.append_nil] at this
 exact this.symm
theorem OwnM.reset {O:Nat->Prop} {H:Heap} {M:Nat} {h:List UInt8} (k:OwnM O H M h):OwnM O (H.set M [.nil]) M []/\OStep O O H (H.set M [.nil]):=by
 obtain ⟨x,h1,h2,_,_,h5⟩:=k
 exact ⟨⟨.nil,h1,by rw[Heap.get_set,if_pos rfl,h2]; rfl,.inl ⟨rfl,rfl⟩,by simp,fun z hz=>by rw[Heap.next_set]; exact h5 z hz⟩,⟨(Step.refl _ _).set (fun e=>e.2 h1) gz,fun z hz _=>hz⟩⟩
theorem OwnM.append {O:Nat->Prop} {H:Heap} {M:Nat} {h x:List UInt8} (k:OwnM O H M h) (hl:h.length+x.length<=100000) : ∃ y H1 O',H.get M=some [y]/\aappend Tryz.prog H 25 25 y (.vs x.length 1 (bV x))=some (.ms H.next 0 (h.length+x.length) 1,H1)/\H1.get M=some [y]/\OwnM O' (H1.set M [.ms H.next 0 (h.length+x.length) 1]) M (h++x)/\OStep O O' H (H1.set M [.ms H.next 0 (h.length+x.length) 1]):=by
 obtain ⟨y,h1,h2,h3,h4,h5⟩:=k
 have hMl:=Heap.lt_of_get h2
 obtain ⟨bo,hg,hbo⟩ : ∃ bo,grown H 1 y=some (h.length,bV h,bo) /\ ∀ q,bo=some q->O q/\q≠M:=by
  rcases h3 with ⟨rfl,rfl⟩ | ⟨q,k1,k2,rfl,k4⟩
  ·exact ⟨none,rfl,by simp⟩
  ·exact ⟨some q,grown_of k4 (by rw[qQ]; omega),fun q2 e=>by cases e; exact ⟨k1,k2⟩⟩
 have ha:=qL (P:=Tryz.prog) (H:=H) (t:=25) (u:=25) (s:=y) (x:=.vs x.length 1 (bV x)) tU25 tS5 tB5 tZ5 rfl (zl tU25 (by rw[qQ]; omega)) hg oz oz (yc x)
 rw[<- jF] at ha
 have hS:Step (fun z=>z<H.next/\(¬ O z\/z=M)) H (H.regrow bo (bV (h++x))):=(Step.refl _ H).regrow (fun q e hz=>hz.2.elim (fun e2=>e2 (hbo q e).1) (fun e2=>(hbo q e).2 e2)) (ja _ _)
 have g1:=hS.get h2 ⟨hMl,.inr rfl⟩
 have hn1:(H.regrow bo (bV (h++x))).next=H.next+1:=Heap.next_regrow _ _ _
 have gq:(H.regrow bo (bV (h++x))).get H.next=some (bV (h++x)):=zf
 have hS2:Step (fun z=>z<H.next /\ ¬ O z) H ((H.regrow bo (bV (h++x))).set M [.ms H.next 0 (h.length+x.length) 1]):=(hS.mono fun z hz=>⟨hz.1,.inl hz.2⟩).set (fun e=>e.2 h1) (by rw[hn1]; simp[go_sem])
 refine ⟨y,_,fun z=>(O z\/H.next<=z)/\z<H.next+1,h2,ha,g1,⟨_,⟨.inl h1,oz⟩,by rw[Heap.get_set,if_pos rfl,g1]; rfl,.inr ⟨H.next,⟨.inr (Nat.le_refl _),oz⟩,oz,by rw[List.length_append],by rw[Heap.get_set,if_neg oz]; exact gq⟩,by rw[List.length_append]; omega,fun z hz=>by rw[Heap.next_set,hn1]; exact hz.2⟩,⟨hS2,fun z hz hl=>hz.1.elim id (fun e=>by omega)⟩⟩
def smallB (l:List (List UInt8)):Bool:=decide (l.length<=20)&&l.all fun x=>decide (x.length<=2000)
theorem qob {l:List (List UInt8)} {i:Nat} (h:i<l.length) : ∃ r,(l.map bA).drop i = .vs (l.getD i []).length 1 (bV (l.getD i []))::r:=by
 refine ⟨(l.map bA).drop (i+1),?_⟩
 rw[List.drop_eq_getElem_cons (by simpa using h),List.getElem_map,List.getD_eq_getElem?_getD,List.getElem?_eq_getElem h]
 rfl
theorem all_step {l:List (List UInt8)} {i:Nat} (h:i<l.length):(l.take (i+1)).all (fun x=>decide (x.length<=2000))=((l.take i).all (fun x=>decide (x.length<=2000))&&decide ((l.getD i []).length<=2000)):=by
 rw[List.take_add_one,List.getElem?_eq_getElem h,List.all_append,List.getD_eq_getElem?_getD,List.getElem?_eq_getElem h]
 simp
theorem all_not {l:List (List UInt8)} {i:Nat} (h:i<l.length) (hx : ¬ (l.getD i []).length<=2000):l.all (fun x=>decide (x.length<=2000))=false:=by
 rw[Bool.eq_false_iff]
 intro e
 have:=List.all_eq_true.1 e l[i] (List.getElem_mem h)
 rw[List.getD_eq_getElem?_getD,List.getElem?_eq_getElem h] at hx
 simp at this
 exact hx this
theorem small_at {l:List (List UInt8)} (h:smallB l=true):l.length<=20 /\ ∀ i,(l.getD i []).length<=2000:=by
 unfold smallB at h
 simp only[Bool.and_eq_true,decide_eq_true_eq,List.all_eq_true] at h
 refine ⟨h.1,fun i=>?_⟩
 rcases Nat.lt_or_ge i l.length with hi | hi
 ·rw[List.getD_eq_getElem?_getD,List.getElem?_eq_getElem hi]
  exact h.2 _ (List.getElem_mem hi)
 ·rw[List.getD_eq_getElem?_getD,List.getElem?_eq_none hi]
  simp
theorem small_s (l:List (List UInt8)) {n:Nat} (hn:l.length=n):SCalls Tryz.prog 19 [.vs n 1 (l.map bA)] Heap.empty (.bool (smallB l)) Heap.empty:=by
 refine qE (sz:=19) (Tryz.call19) Tryz.func19 rfl (Nat.zero_le _) kz (fun R hR=>?_)
 refine qg (fun K1 hK1=>?_)
 refine qi kz ?_
 simp[go_sem]
 refine hK1 _ _ ?_
 try clear hK1 K1
 refine qg (fun K2 hK2=>?_)
 refine qg (fun K3 hK3=>?_)
 rcases Nat.lt_or_ge 20 n with h20 | h20
 ·skip
  have f1:(20:Int)<(n:Int):=oz
  refine qi kz ?_
  simp[go_sem,f1,h20]
  refine hK3 _ _ ?_
  try clear hK3 K3
  refine qj (b:=true) (by simp[go_sem,f1,h20]) (fun _=>?_) (fun h=>by cases h)
  refine qg (fun K4 hK4=>?_)
  refine qi kz ?_
  simp[go_sem]
  refine hK4 _ _ ?_
  try clear hK4 K4
  refine qx ?_
  simp only[go_sem]
  refine hR _ _ ?_
  have hb:smallB l=false:=by unfold smallB; rw[hn,decide_eq_false oz]; rfl
  rw[hb]
  exact qG gz (qP _) (Nat.zero_le _) gz
 ·skip
  have f1 : ¬ ((20:Int)<(n:Int)):=oz
  have h21 : ¬ (20<n):=oz
  refine qi kz ?_
  simp[go_sem,f1,h21]
  refine hK3 _ _ ?_
  try clear hK3 K3
  refine qj (b:=false) (by simp[go_sem,f1,h21]) (fun h=>by cases h) (fun _=>?_)
  refine ql ?_
  refine hK2 _ _ ?_
  try clear hK2 K2
  refine qg (fun K5 hK5=>?_)
  refine qg (fun K6 hK6=>?_)
  refine qi kz ?_
  simp[go_sem]
  refine hK6 _ _ ?_
  try clear hK6 K6
  refine qm ?_
  refine qC (Inv:=fun m0 env H2 => ∃ i:Nat,m0=n-i/\i<=n/\env 0 = .vs n 1 (l.map bA)/\env 3 = .int i/\(l.take i).all (fun x=>decide (x.length<=2000))=true/\H2=Heap.empty) ?_ (n:=n) (⟨0,rfl,oz,gz,gz,rfl,rfl⟩)
  rintro m0 env _ ⟨i,rfl,hi,e0,e3,hall,rfl⟩
  refine qg (fun K7 hK7=>?_)
  refine qg (fun K8 hK8=>?_)
  refine qi kz ?_
  simp[go_sem,e0,e3]
  refine hK8 _ _ ?_
  try clear hK8 K8
  refine qj (b:=decide ((i:Int)<(n:Int))) gz (fun hb9=>?_) (fun hb9=>?_)
  ·skip
   simp only[decide_eq_true_eq] at hb9
   have hb9:i<n:=oz
   have hw:=qF i oz
   obtain ⟨r,dr⟩:=qob (l:=l) (i:=i) oz
   have hst:=all_step (l:=l) (i:=i) oz
   have hnt:=all_not (l:=l) (i:=i) oz
   obtain ⟨x,hx⟩ : ∃ z,l.getD i []=z:=⟨_,rfl⟩
   rw[hx] at dr hst hnt
   obtain ⟨xl,hxl⟩ : ∃ z,x.length=z:=⟨_,rfl⟩
   rw[hxl] at dr hst hnt
   have li1:(i:Int)<n:=oz
   have li2:i+1<=n:=oz
   have hL:(l.map bA).length=n:=by rw[List.length_map,hn]
   refine ql ?_
   refine hK7 _ _ ?_
   try clear hK7 K7
   refine qg (fun K9 hK9=>?_)
   refine qm ?_
   refine qg (fun K10 hK10=>?_)
   rcases Nat.lt_or_ge 2000 xl with hx1 | hx2
   ·skip
    have f2:(2000:Int)<(xl:Int):=oz
    refine qi kz ?_
    simp[go_sem,e0,e3,dr,li1,li2,hL,f2,hx1]
    refine hK10 _ _ ?_
    try clear hK10 K10
    refine qj (b:=true) (by simp[go_sem,f2,hx1]) (fun _=>?_) (fun h=>by cases h)
    refine qg (fun K11 hK11=>?_)
    refine qi kz ?_
    simp[go_sem]
    refine hK11 _ _ ?_
    try clear hK11 K11
    refine qx ?_
    simp only[go_sem]
    refine hR _ _ ?_
    have hb:smallB l=false:=by unfold smallB; rw[hnt oz]; simp
    rw[hb]
    exact qG gz (qP _) (Nat.zero_le _) gz
   ·skip
    have f2 : ¬ ((2000:Int)<(xl:Int)):=oz
    have f3 : ¬ (2000<xl):=oz
    refine qi kz ?_
    simp[go_sem,e0,e3,dr,li1,li2,hL,f2,f3]
    refine hK10 _ _ ?_
    try clear hK10 K10
    refine qj (b:=false) (by simp[go_sem,f2,f3]) (fun h=>by cases h) (fun _=>?_)
    refine ql ?_
    refine hK9 _ _ ?_
    try clear hK9 K9
    refine qo (fun K12 hK12=>?_)
    refine qi kz ?_
    simp[go_sem,e3,hw]
    refine hK12 _ _ ?_
    exact ⟨n-(i+1),oz,i+1,rfl,oz,by simp[go_sem,e0],gz,by rw[hst,hall,decide_eq_true hx2]; rfl,rfl⟩
  ·skip
   simp only[decide_eq_false_iff_not] at hb9
   obtain rfl:n=i:=oz
   rw[List.take_of_length_le oz] at hall
   refine qy ?_
   refine hK5 _ _ ?_
   try clear hK5 K5
   refine qg (fun K13 hK13=>?_)
   refine qi kz ?_
   simp[go_sem]
   refine hK13 _ _ ?_
   try clear hK13 K13
   refine qx ?_
   simp only[go_sem]
   refine hR _ _ ?_
   have hb:smallB l=true:=by unfold smallB; rw[hn,hall,decide_eq_true h20]; rfl
   rw[hb]
   exact qG gz (qP _) (Nat.zero_le _) gz
end Go.Proofs.YtfokgjhdndnnhaaGreatDoor
end X15S
set_option maxRecDepth 20000
noncomputable section W59S
namespace Go.Proofs.YtfokgjhdndnnhaaGreatDoor
open Go Go.Fl Go.Proofs
theorem yx (P:Program) (tys:Array TypeId) (t:TypeId) (n:Int):srun P (Builtin.min_ tys t #[.int .i64 n,.int .i64 32768])=some (.int .i64 (if 32768<n then 32768 else n)):=rfl
end Go.Proofs.YtfokgjhdndnnhaaGreatDoor
end W59S
set_option maxRecDepth 20000
noncomputable section X16S
namespace Go.Proofs.YtfokgjhdndnnhaaGreatDoor
open Go Go.Fl Go.Proofs
theorem zM (a:Nat) (ha:a<256):bits .and .u8 (a:Int) 7=((a%8:Nat):Int):=by
 have:=(bits_nat .u8 8 dz wraps_u8 a 7 ha dz).1
 have e:a &&& 7=a%8:=Nat.and_two_pow_sub_one_eq_mod a 3
 rw[e] at this
 exact this
theorem OwnM.len {O:Nat->Prop} {H:Heap} {M L:Nat} {h:List UInt8} (k:OwnM O H M h) (hL:h.length=L) : ∃ y,H.get M=some [y]/\alen Tryz.prog 25 y=some (.int L):=by
 obtain ⟨y,_,h2,h3,_,_⟩:=k
 refine ⟨y,h2,?_⟩
 rcases h3 with ⟨rfl,rfl⟩ | ⟨q,_,_,rfl,_⟩
 ·subst hL; simp[go_sem]
 ·rw[hL]; simp[go_sem]
theorem back_law (l:List (List UInt8)) (rs:List UInt8):SCalls Tryz.prog 7 [.vs l.length 1 (l.map bA),bA rs] Heap.empty (.bool true) Heap.empty:=by
 obtain ⟨n,hn⟩ : ∃ z,l.length=z:=⟨_,rfl⟩
 obtain ⟨lr,hlr⟩ : ∃ z,rs.length=z:=⟨_,rfl⟩
 have rR:=row_A hlr
 rw[rR,hn]
 have csm:=small_s l hn
 have hc:smallB l=false\/(smallB l=true/\50<lr)\/(smallB l=true/\lr<=50):=by
  rcases Bool.eq_false_or_eq_true (smallB l) with h | h
  ·rcases Nat.lt_or_ge 50 lr with h2 | h2
   ·exact .inr (.inl ⟨h,h2⟩)
   ·exact .inr (.inr ⟨h,h2⟩)
  ·exact .inl h
 refine qE (sz:=183) (Tryz.call7) Tryz.func7 rfl (Nat.zero_le _) kz (fun R hR=>?_)
 refine qg (fun K1 hK1=>?_)
 refine qi kz ?_
 simp[go_sem]
 refine hK1 _ _ ?_
 try clear hK1 K1
 refine qg (fun K2 hK2=>?_)
 refine qg (fun K3 hK3=>?_)
 refine qi kz ?_
 refine qI 1 (fun K4 hK4=>?_)
 simp[go_sem]
 refine ⟨_,_,awake_s,?_⟩
 refine hK4 _ _ ?_
 clear hK4 K4
 simp[go_sem]
 refine hK3 _ _ ?_
 try clear hK3 K3
 refine qj (b:=false) gz (fun h=>by cases h) (fun _=>?_)
 refine ql ?_
 refine hK2 _ _ ?_
 try clear hK2 K2
 refine qg (fun K5 hK5=>?_)
 refine qg (fun K6 hK6=>?_)
 rcases hc with hsb | ⟨hsb,q1⟩ | ⟨hsb,q1⟩
 ·skip
  rw[hsb] at csm
  refine qi kz ?_
  refine qI 2 (fun K7 hK7=>?_)
  simp[go_sem]
  refine ⟨_,_,csm,?_⟩
  refine hK7 _ _ ?_
  clear hK7 K7
  simp[go_sem]
  refine hK6 _ _ ?_
  try clear hK6 K6
  refine qj (b:=true) gz (fun _=>?_) (fun h=>by cases h)
  refine qg (fun K8 hK8=>?_)
  refine qi kz ?_
  simp[go_sem]
  refine hK8 _ _ ?_
  try clear hK8 K8
  refine qx ?_
  simp only[go_sem]
  refine hR _ _ ?_
  exact qG gz (qP _) (Nat.zero_le _) gz
 ·skip
  rw[hsb] at csm
  have f1:(50:Int)<lr:=oz
  refine qi kz ?_
  refine qI 2 (fun K9 hK9=>?_)
  simp[go_sem,f1,q1]
  refine ⟨_,_,csm,?_⟩
  refine hK9 _ _ ?_
  clear hK9 K9
  simp[go_sem,f1,q1]
  refine hK6 _ _ ?_
  try clear hK6 K6
  refine qj (b:=true) (by simp[go_sem,f1,q1]) (fun _=>?_) (fun h=>by cases h)
  refine qg (fun K10 hK10=>?_)
  refine qi kz ?_
  simp[go_sem]
  refine hK10 _ _ ?_
  try clear hK10 K10
  refine qx ?_
  simp only[go_sem]
  refine hR _ _ ?_
  exact qG gz (qP _) (Nat.zero_le _) gz
 ·skip
  rw[hsb] at csm
  have f1 : ¬ ((50:Int)<lr):=oz
  have q2 : ¬ (50<lr):=oz
  have hsm:=small_at hsb
  refine qi kz ?_
  refine qI 2 (fun K11 hK11=>?_)
  simp[go_sem,f1,q2]
  refine ⟨_,_,csm,?_⟩
  refine hK11 _ _ ?_
  clear hK11 K11
  simp[go_sem,f1,q2]
  refine hK6 _ _ ?_
  try clear hK6 K6
  refine qj (b:=false) (by simp[go_sem,f1,q2]) (fun h=>by cases h) (fun _=>?_)
  refine ql ?_
  refine hK5 _ _ ?_
  try clear hK5 K5
  refine qg (fun K12 hK12=>?_)
  refine qp kz ?_
  refine qH 1 (fun K13 hK13=>?_)
  simp[go_sem]
  refine ⟨_,(dNew_o _),?_⟩
  rintro _ H1 ⟨D,O1,rfl,k1,l1,s1⟩
  refine hK13 _ _ ?_
  clear hK13 K13
  simp[go_sem]
  refine hK12 _ _ ?_
  try clear hK12 K12
  refine qg (fun K14 hK14=>?_)
  refine qp kz ?_
  refine qH 1 (fun K15 hK15=>?_)
  simp[go_sem]
  refine ⟨_,(fNew_o H1),?_⟩
  rintro _ H2 hn2 ⟨F,O2,rfl,k2,l2,s2⟩
  have d12 : ∀ z,O1 z -> ¬ O2 z:=fun z h1 h2=>by have:=k1.lt z h1; have:=l2 z h2; omega
  have k1:=k1.new s2
  have s3:Step (fun z=>z<H2.next) H2 (H2.alloc [.nil]):=(Step.refl _ _).alloc gz
  have d1m : ∀ z,O1 z -> ¬ z=H2.next:=fun z h1 e=>by have:=k1.lt z h1; omega
  have d2m : ∀ z,O2 z -> ¬ z=H2.next:=fun z h1 e=>by have:=k2.lt z h1; omega
  have k1:=k1.new s3
  have k2:=k2.new s3
  have k3:OwnM (fun z=>z=H2.next) (H2.alloc [.nil]) H2.next []:=⟨.nil,rfl,by rw[Heap.get_alloc,if_pos rfl],.inl ⟨rfl,rfl⟩,by simp,fun z hz=>by rw[Heap.next_alloc]; omega⟩
  refine hK15 _ _ ?_
  clear hK15 K15
  simp[go_sem]
  refine hK14 _ _ ?_
  try clear hK14 K14
  refine qw (fun env H9 => ∃ M,(env 0 = .vs n 1 (l.map bA)/\env 1 = .vs lr 1 (bV rs)/\env 5 = .ptr D 0/\env 6 = .ptr F 0/\env 7 = .ptr M 0)/\M=H2.next/\H9=H2.alloc [.nil]) ?_ ?_
  ·skip
   refine qo (fun K17 hK17=>?_)
   refine qi kz ?_
   simp[go_sem]
   refine hK17 _ _ ?_
   exact ⟨H2.next,⟨gz,gz,gz,gz,gz⟩,rfl,rfl⟩
  rintro env H9 ⟨M,⟨e0,e1,e5,e6,e7⟩,hMq,hHq⟩
  rw[<- hMq] at k3 d1m d2m
  rw[<- hHq] at k1 k2 k3
  clear hHq hMq s3
  refine qg (fun K18 hK18=>?_)
  refine qg (fun K19 hK19=>?_)
  refine qi kz ?_
  simp[go_sem,e5,e6]
  refine hK19 _ _ ?_
  try clear hK19 K19
  refine qj (b:=false) gz (fun h=>by cases h) (fun _=>?_)
  refine ql ?_
  refine hK18 _ _ ?_
  try clear hK18 K18
  refine qg (fun K20 hK20=>?_)
  refine qg (fun K21 hK21=>?_)
  refine qi kz ?_
  simp[go_sem]
  refine hK21 _ _ ?_
  try clear hK21 K21
  refine qm ?_
  refine qC (Inv:=fun m0 env H2 => ∃ i:Nat,m0=n-i/\i<=n /\ ∃ (h hm:List UInt8) (O1 O2 O3:Nat->Prop),(env 0 = .vs n 1 (l.map bA)/\env 1 = .vs lr 1 (bV rs)/\env 5 = .ptr D 0/\env 6 = .ptr F 0/\env 7 = .ptr M 0/\env 8 = .int i)/\Own O1 H2 D h/\Own O2 H2 F h/\OwnM O3 H2 M hm/\lastW hm=h/\hm.length<=32768+2000*(i)/\(∀ z,O1 z -> ¬ O2 z)/\(∀ z,O1 z -> ¬ O3 z)/\(∀ z,O2 z -> ¬ O3 z)) ?_ (n:=n) (⟨0,rfl,oz,[],[],O1,O2,_,⟨by simp[go_sem,e0],by simp[go_sem,e1],by simp[go_sem,e5],by simp[go_sem,e6],by simp[go_sem,e7],gz⟩,k1,k2,k3,by rfl,by simp,d12,d1m,d2m⟩)
  clear e0 e1 e5 e6 e7 k1 k2 k3 d12 d1m d2m
  rintro m0 env H2 ⟨i,rfl,hi,h,hm,O1,O2,O3,⟨e0,e1,e5,e6,e7,e8⟩,k1,k2,k3,hlw,hml,d12,d13,d23⟩
  refine qg (fun K22 hK22=>?_)
  refine qg (fun K23 hK23=>?_)
  refine qi kz ?_
  simp[go_sem,e0,e8]
  refine hK23 _ _ ?_
  try clear hK23 K23
  refine qj (b:=decide ((i:Int)<(n:Int))) gz (fun hb9=>?_) (fun hb9=>?_)
  ·skip
   simp only[decide_eq_true_eq] at hb9
   have hb9:i<n:=oz
   have hw:=qF i oz
   obtain ⟨r,dr⟩:=qob (l:=l) (i:=i) oz
   have hx2:=hsm.2 i
   obtain ⟨x,hx⟩ : ∃ z,l.getD i []=z:=⟨_,rfl⟩
   rw[hx] at dr hx2
   obtain ⟨xl,hxl⟩ : ∃ z,x.length=z:=⟨_,rfl⟩
   have rX:=row_A hxl
   rw[hxl] at dr hx2
   have li1:(i:Int)<n:=oz
   have li2:i+1<=n:=oz
   have hL:(l.map bA).length=n:=by rw[List.length_map,hn]
   have hLr:(bV rs).length=lr:=by rw[qQ,hlr]
   obtain ⟨c,hcq⟩ : ∃ z,(gB rs i).toNat=z:=⟨_,rfl⟩
   have hc256:c<256:=by rw[<- hcq]; exact (gB rs i).toNat_lt
   obtain ⟨v,hvq⟩ : ∃ z,c%8=z:=⟨_,rfl⟩
   have hcs:(i<lr/\v=7)\/(i<lr/\v=6)\/(i<lr/\v≠7/\v≠6)\/lr<=i:=oz
   refine ql ?_
   refine hK22 _ _ ?_
   try clear hK22 K22
   refine qw (fun env H2 => ∃ (h hm:List UInt8) (O1 O2 O3:Nat->Prop),(env 0 = .vs n 1 (l.map bA)/\env 1 = .vs lr 1 (bV rs)/\env 5 = .ptr D 0/\env 6 = .ptr F 0/\env 7 = .ptr M 0/\env 8 = .int i)/\Own O1 H2 D h/\Own O2 H2 F h/\OwnM O3 H2 M hm/\lastW hm=h/\hm.length<=32768+2000*(i+1)/\(∀ z,O1 z -> ¬ O2 z)/\(∀ z,O1 z -> ¬ O3 z)/\(∀ z,O2 z -> ¬ O3 z)) ?_ ?_
   ·skip
    refine qm ?_
    refine qw (fun env H2 => ∃ (h hm:List UInt8) (O1 O2 O3:Nat->Prop),(env 0 = .vs n 1 (l.map bA)/\env 1 = .vs lr 1 (bV rs)/\env 5 = .ptr D 0/\env 6 = .ptr F 0/\env 7 = .ptr M 0/\env 8 = .int i)/\Own O1 H2 D h/\Own O2 H2 F h/\OwnM O3 H2 M hm/\lastW hm=h/\hm.length<=32768+2000*(i)/\(∀ z,O1 z -> ¬ O2 z)/\(∀ z,O1 z -> ¬ O3 z)/\(∀ z,O2 z -> ¬ O3 z)) ?_ ?_
    ·skip
     refine qg (fun K26 hK26=>?_)
     rcases hcs with ⟨hil,hv⟩ | ⟨hil,hv⟩ | ⟨hil,hv7,hv6⟩ | hil
     ·skip
      obtain ⟨r9,drr⟩:=yA (l:=rs) (i:=i) oz
      rw[hcq] at drr
      have f1:(i:Int)<lr:=oz
      have f2:i+1<=lr:=oz
      have an:=zM c hc256
      rw[hvq,hv] at an
      refine qi kz ?_
      simp[go_sem,e1,e8,f1,drr,an,f2,hLr]
      refine hK26 _ _ ?_
      try clear hK26 K26
      refine qj (b:=true) gz (fun _=>?_) (fun h=>by cases h)
      refine qg (fun K27 hK27=>?_)
      refine qp kz ?_
      simp[go_sem,e5]
      refine ⟨_,(dReset_o k1),?_⟩
      rintro _ H3 hn3 ⟨rfl,O1b,k1,s3⟩
      obtain ⟨k2,d12⟩:=s3.other k2 d12
      obtain ⟨k3,d13⟩:=s3.otherM k3 d13
      refine hK27 _ _ ?_
      try clear hK27 K27
      refine qg (fun K29 hK29=>?_)
      refine qp kz ?_
      simp[go_sem,e6]
      refine ⟨_,(fReset_o k2),?_⟩
      rintro _ H4 hn4 ⟨rfl,O2b,k2,s4⟩
      obtain ⟨k1,d21⟩:=s4.other k1 (fun z h1 h2=>d12 z h2 h1)
      obtain ⟨k3,d23⟩:=s4.otherM k3 d23
      obtain ⟨k3b,s5⟩:=k3.reset
      obtain ⟨y,_,gM,_⟩:=k3
      obtain ⟨k1,d31⟩:=s5.other k1 (fun z h1 h2=>d13 z h2 h1)
      obtain ⟨k2,d32⟩:=s5.other k2 (fun z h1 h2=>d23 z h2 h1)
      refine hK29 _ _ ?_
      try clear hK29 K29
      refine qo (fun K31 hK31=>?_)
      refine qi kz ?_
      simp[go_sem,e7,gM]
      refine hK31 _ _ ?_
      exact ⟨[],[],_,_,_,⟨by simp[go_sem,e0],by simp[go_sem,e1],by simp[go_sem,e5],by simp[go_sem,e6],by simp[go_sem,e7],by simp[go_sem,e8]⟩,k1,k2,k3b,by rfl,by simp,(fun z h1 h2=>d21 z h2 h1),(fun z h1 h2=>d31 z h2 h1),(fun z h1 h2=>d32 z h2 h1)⟩
     ·skip
      obtain ⟨r9,drr⟩:=yA (l:=rs) (i:=i) oz
      rw[hcq] at drr
      have f1:(i:Int)<lr:=oz
      have f2:i+1<=lr:=oz
      have an:=zM c hc256
      rw[hvq,hv] at an
      refine qi kz ?_
      simp[go_sem,e1,e8,f1,drr,an,f2,hLr]
      refine hK26 _ _ ?_
      try clear hK26 K26
      refine qj (b:=false) gz (fun h=>by cases h) (fun _=>?_)
      refine ql ?_
      exact ⟨h,hm,O1,O2,O3,⟨by simp[go_sem,e0],by simp[go_sem,e1],by simp[go_sem,e5],by simp[go_sem,e6],by simp[go_sem,e7],by simp[go_sem,e8]⟩,k1,k2,k3,hlw,hml,d12,d13,d23⟩
     ·skip
      obtain ⟨r9,drr⟩:=yA (l:=rs) (i:=i) oz
      rw[hcq] at drr
      have f1:(i:Int)<lr:=oz
      have f2:i+1<=lr:=oz
      have an:=zM c hc256
      rw[hvq] at an
      have fq7:((v:Int)==7)=false:=beq_eq_false_iff_ne.2 oz
      refine qi kz ?_
      simp[go_sem,e1,e8,f1,drr,an,f2,hLr,fq7]
      refine hK26 _ _ ?_
      try clear hK26 K26
      refine qj (b:=false) gz (fun h=>by cases h) (fun _=>?_)
      refine ql ?_
      exact ⟨h,hm,O1,O2,O3,⟨by simp[go_sem,e0],by simp[go_sem,e1],by simp[go_sem,e5],by simp[go_sem,e6],by simp[go_sem,e7],by simp[go_sem,e8]⟩,k1,k2,k3,hlw,hml,d12,d13,d23⟩
     ·skip
      have f1 : ¬ ((i:Int)<lr):=oz
      refine qi kz ?_
      simp[go_sem,e1,e8,f1]
      refine hK26 _ _ ?_
      try clear hK26 K26
      refine qj (b:=false) gz (fun h=>by cases h) (fun _=>?_)
      refine ql ?_
      exact ⟨h,hm,O1,O2,O3,⟨by simp[go_sem,e0],by simp[go_sem,e1],by simp[go_sem,e5],by simp[go_sem,e6],by simp[go_sem,e7],by simp[go_sem,e8]⟩,k1,k2,k3,hlw,hml,d12,d13,d23⟩
    clear e0 e1 e5 e6 e7 e8 k1 k2 k3 hlw hml d12 d13 d23
    rintro env H2 ⟨h,hm,O1,O2,O3,⟨e0,e1,e5,e6,e7,e8⟩,k1,k2,k3,hlw,hml,d12,d13,d23⟩
    refine qw (fun env H2 => ∃ (h hm:List UInt8) (O1 O2 O3:Nat->Prop),(env 0 = .vs n 1 (l.map bA)/\env 1 = .vs lr 1 (bV rs)/\env 5 = .ptr D 0/\env 6 = .ptr F 0/\env 7 = .ptr M 0/\env 8 = .int i)/\Own O1 H2 D h/\Own O2 H2 F h/\OwnM O3 H2 M hm/\lastW hm=h/\hm.length<=32768+2000*(i)/\(∀ z,O1 z -> ¬ O2 z)/\(∀ z,O1 z -> ¬ O3 z)/\(∀ z,O2 z -> ¬ O3 z)) ?_ ?_
    ·skip
     refine qg (fun K33 hK33=>?_)
     rcases hcs with ⟨hil,hv⟩ | ⟨hil,hv⟩ | ⟨hil,hv7,hv6⟩ | hil
     ·skip
      obtain ⟨r9,drr⟩:=yA (l:=rs) (i:=i) oz
      rw[hcq] at drr
      have f1:(i:Int)<lr:=oz
      have f2:i+1<=lr:=oz
      have an:=zM c hc256
      rw[hvq,hv] at an
      refine qi kz ?_
      simp[go_sem,e1,e8,f1,drr,an,f2,hLr]
      refine hK33 _ _ ?_
      try clear hK33 K33
      refine qj (b:=false) gz (fun h=>by cases h) (fun _=>?_)
      refine ql ?_
      exact ⟨h,hm,O1,O2,O3,⟨by simp[go_sem,e0],by simp[go_sem,e1],by simp[go_sem,e5],by simp[go_sem,e6],by simp[go_sem,e7],by simp[go_sem,e8]⟩,k1,k2,k3,hlw,hml,d12,d13,d23⟩
     ·skip
      obtain ⟨r9,drr⟩:=yA (l:=rs) (i:=i) oz
      rw[hcq] at drr
      have f1:(i:Int)<lr:=oz
      have f2:i+1<=lr:=oz
      have an:=zM c hc256
      rw[hvq,hv] at an
      refine qi kz ?_
      simp[go_sem,e1,e8,f1,drr,an,f2,hLr]
      refine hK33 _ _ ?_
      try clear hK33 K33
      refine qj (b:=true) gz (fun _=>?_) (fun h=>by cases h)
      refine qg (fun K34 hK34=>?_)
      have c1:=dAdd_o (b:=x) oz k1
      rw[rX] at c1
      refine qp kz ?_
      simp[go_sem,e0,e8,dr,li1,li2,hL,e5]
      refine ⟨_,c1,?_⟩
      rintro _ H3 hn3 ⟨rfl,O1b,k1,s3⟩
      obtain ⟨k2,d12⟩:=s3.other k2 d12
      obtain ⟨k3,d13⟩:=s3.otherM k3 d13
      have c2:=fAdd_o (b:=x) oz k2
      rw[rX] at c2
      refine hK34 _ _ ?_
      try clear hK34 K34
      refine qg (fun K36 hK36=>?_)
      refine qp kz ?_
      simp[go_sem,e0,e8,dr,li1,li2,hL,e6]
      refine ⟨_,c2,?_⟩
      rintro _ H4 hn4 ⟨rfl,O2b,k2,s4⟩
      obtain ⟨k1,d21⟩:=s4.other k1 (fun z h1 h2=>d12 z h2 h1)
      obtain ⟨k3,d23⟩:=s4.otherM k3 d23
      obtain ⟨y,H5,O3b,gM,hap,gM1,k3b,s5⟩:=k3.append (x:=x) oz
      rw[hxl] at hap k3b s5
      obtain ⟨k1,d31⟩:=s5.other k1 (fun z h1 h2=>d13 z h2 h1)
      obtain ⟨k2,d32⟩:=s5.other k2 (fun z h1 h2=>d23 z h2 h1)
      refine hK36 _ _ ?_
      try clear hK36 K36
      refine qg (fun K38 hK38=>?_)
      refine qo (fun K39 hK39=>?_)
      refine qZ mixed kz (bf:=[0,0,2,6,14,0,0,96,224,510,1023,2047,4095]) kz ?_
      simp[go_sem,e0,e8,dr,li1,li2,hL,e7,gM,hap,gM1,befL]
      refine hK39 _ _ ?_
      refine hK38 _ _ ?_
      try clear hK38 K38
      refine qy ?_
      exact ⟨_,hm++x,_,_,_,⟨by simp[go_sem,e0],by simp[go_sem,e1],by simp[go_sem,e5],by simp[go_sem,e6],by simp[go_sem,e7],by simp[go_sem,e8]⟩,k1,k2,k3b,qht x hlw,by rw[List.length_append]; omega,(fun z h1 h2=>d21 z h2 h1),(fun z h1 h2=>d31 z h2 h1),(fun z h1 h2=>d32 z h2 h1)⟩
     ·skip
      obtain ⟨r9,drr⟩:=yA (l:=rs) (i:=i) oz
      rw[hcq] at drr
      have f1:(i:Int)<lr:=oz
      have f2:i+1<=lr:=oz
      have an:=zM c hc256
      rw[hvq] at an
      have fq6:((v:Int)==6)=false:=beq_eq_false_iff_ne.2 oz
      refine qi kz ?_
      simp[go_sem,e1,e8,f1,drr,an,f2,hLr,fq6]
      refine hK33 _ _ ?_
      try clear hK33 K33
      refine qj (b:=false) gz (fun h=>by cases h) (fun _=>?_)
      refine ql ?_
      exact ⟨h,hm,O1,O2,O3,⟨by simp[go_sem,e0],by simp[go_sem,e1],by simp[go_sem,e5],by simp[go_sem,e6],by simp[go_sem,e7],by simp[go_sem,e8]⟩,k1,k2,k3,hlw,hml,d12,d13,d23⟩
     ·skip
      have f1 : ¬ ((i:Int)<lr):=oz
      refine qi kz ?_
      simp[go_sem,e1,e8,f1]
      refine hK33 _ _ ?_
      try clear hK33 K33
      refine qj (b:=false) gz (fun h=>by cases h) (fun _=>?_)
      refine ql ?_
      exact ⟨h,hm,O1,O2,O3,⟨by simp[go_sem,e0],by simp[go_sem,e1],by simp[go_sem,e5],by simp[go_sem,e6],by simp[go_sem,e7],by simp[go_sem,e8]⟩,k1,k2,k3,hlw,hml,d12,d13,d23⟩
    clear e0 e1 e5 e6 e7 e8 k1 k2 k3 hlw hml d12 d13 d23
    rintro env H2 ⟨h,hm,O1,O2,O3,⟨e0,e1,e5,e6,e7,e8⟩,k1,k2,k3,hlw,hml,d12,d13,d23⟩
    refine qg (fun K40 hK40=>?_)
    rcases Nat.eq_zero_or_pos xl with hz | hz
    ·skip
     have hx0:x = []:=List.eq_nil_of_length_eq_zero oz
     have dr0:(l.map bA).drop i = .vs 0 1 []::r:=by rw[dr,hz,hx0]; rfl
     clear rX
     refine qi kz ?_
     refine qI 6 (fun K41 hK41=>?_)
     simp[go_sem,e0,e8,dr0,li1,li2,hL,e5]
     refine ⟨_,_,(qix k1),?_⟩
     refine hK41 _ _ ?_
     clear hK41 K41
     simp[go_sem,e0,e8,dr0,li1,li2,hL,e5]
     refine hK40 _ _ ?_
     try clear hK40 K40
     refine qg (fun K42 hK42=>?_)
     refine qg (fun K43 hK43=>?_)
     have w60:IntKind.i64.wrap 6=6:=rfl
     refine qi kz ?_
     simp[go_sem,e0,e8,dr0,li1,li2,hL,w60]
     refine hK43 _ _ ?_
     try clear hK43 K43
     refine qj (b:=false) gz (fun h=>by cases h) (fun _=>?_)
     refine ql ?_
     refine hK42 _ _ ?_
     try clear hK42 K42
     refine qg (fun K44 hK44=>?_)
     refine qg (fun K45 hK45=>?_)
     refine qi kz ?_
     simp[go_sem,e0,e8,dr0,li1,li2,hL]
     refine hK45 _ _ ?_
     try clear hK45 K45
     refine qj (b:=true) gz (fun _=>?_) (fun h=>by cases h)
     refine qy ?_
     exact ⟨h,hm,O1,O2,O3,⟨by simp[go_sem,e0],by simp[go_sem,e1],by simp[go_sem,e5],by simp[go_sem,e6],by simp[go_sem,e7],by simp[go_sem,e8]⟩,k1,k2,k3,hlw,oz,d12,d13,d23⟩
    ·skip
     have c1:=qiv (b:=x) oz oz k1
     have hpl:=pack_le h x
     obtain ⟨pn,hpn⟩ : ∃ z,(packOf h x).length=z:=⟨_,rfl⟩
     have rP:=row_A hpn
     rw[rX,rP] at c1
     refine qp kz ?_
     refine qH 6 (fun K46 hK46=>?_)
     simp[go_sem,e0,e8,dr,li1,li2,hL,e5]
     refine ⟨_,c1,?_⟩
     rintro _ H3 hn3 ⟨rfl,O1b,k1,s3⟩
     obtain ⟨k2,d12⟩:=s3.other k2 d12
     obtain ⟨k3,d13⟩:=s3.otherM k3 d13
     have cf:=qiw (b:=x) oz (mo:=2000) oz oz k2
     rw[rX,rP,show ((2000:Nat):Int)=2000 from rfl] at cf
     have fz:((xl:Int)==0)=false:=beq_eq_false_iff_ne.2 oz
     have w6:IntKind.i64.wrap ((xl:Int)+6)=(xl:Int)+6:=i64in _ oz oz
     have fp : ¬ ((xl:Int)+6<(pn:Int)):=oz
     have fz2 : ¬ xl=0:=oz
     refine hK46 _ _ ?_
     clear hK46 K46
     simp[go_sem,e0,e8,dr,li1,li2,hL,e5]
     refine hK40 _ _ ?_
     try clear hK40 K40
     refine qg (fun K47 hK47=>?_)
     refine qg (fun K48 hK48=>?_)
     refine qi kz ?_
     simp[go_sem,e0,e8,dr,li1,li2,hL,fz,fz2,w6,fp]
     refine hK48 _ _ ?_
     try clear hK48 K48
     refine qj (b:=false) (by simp[go_sem,fp]) (fun h=>by cases h) (fun _=>?_)
     refine ql ?_
     refine hK47 _ _ ?_
     try clear hK47 K47
     refine qg (fun K49 hK49=>?_)
     refine qg (fun K50 hK50=>?_)
     refine qi kz ?_
     simp[go_sem,e0,e8,dr,li1,li2,hL,fz,fz2]
     refine hK50 _ _ ?_
     try clear hK50 K50
     refine qj (b:=false) (by simp[go_sem,fz,fz2]) (fun h=>by cases h) (fun _=>?_)
     refine ql ?_
     refine hK49 _ _ ?_
     try clear hK49 K49
     refine qg (fun K51 hK51=>?_)
     refine qp kz ?_
     refine qH 3 (fun K52 hK52=>?_)
     simp[go_sem,e6]
     refine ⟨_,cf,?_⟩
     rintro _ H4 hn4 ⟨rfl,O2b,k2,s4⟩
     obtain ⟨k1,d21⟩:=s4.other k1 (fun z h1 h2=>d12 z h2 h1)
     obtain ⟨k3,d23⟩:=s4.otherM k3 d23
     have cm:=qpa hlw (b:=x) oz oz (mo:=2000) oz oz k3
     rw[rX,rP,show ((2000:Nat):Int)=2000 from rfl] at cm
     refine hK52 _ _ ?_
     clear hK52 K52
     simp[go_sem,e6]
     refine hK51 _ _ ?_
     try clear hK51 K51
     refine qg (fun K53 hK53=>?_)
     refine qp kz ?_
     refine qH 3 (fun K54 hK54=>?_)
     simp[go_sem,e7]
     refine ⟨_,cm,?_⟩
     rintro _ H5 hn5 ⟨rfl,O3b,k3,s5⟩
     obtain ⟨k1,d31⟩:=s5.other k1 (fun z h1 h2=>d13 z h2 h1)
     obtain ⟨k2,d32⟩:=s5.other k2 (fun z h1 h2=>d23 z h2 h1)
     have sm:=Same_H x oz H5
     rw[rX] at sm
     have g2:=dLen_o k1
     have g3:=fLen_o k2
     have hLl:(lastW (h++x)).length<=32768:=by rw[yD]; omega
     obtain ⟨LL,hLL⟩ : ∃ z,(lastW (h++x)).length=z:=⟨_,rfl⟩
     obtain ⟨y,gM,hln⟩:=k3.len hLL
     rw[hLL] at g2 g3 hLl
     have hq1 : ¬ ((32768:Int)<(LL:Int)):=oz
     have hq2 : ¬ (32768<LL):=oz
     refine hK54 _ _ ?_
     clear hK54 K54
     simp[go_sem,e7]
     refine hK53 _ _ ?_
     try clear hK53 K53
     refine qg (fun K55 hK55=>?_)
     refine qJ mixed kz ?_
     refine jS 13 (fun K56 hK56=>?_)
     simp[go_sem,e0,e8,dr,li1,li2,hL,e5,e6,e7,gM,hln,hq1,hq2,yx]
     refine ⟨_,_,sm,rfl,?_⟩
     refine hK56 _ _ ?_
     clear hK56 K56
     refine jS 9 (fun K57 hK57=>?_)
     simp[go_sem,e0,e8,dr,li1,li2,hL,e5,e6,e7,gM,hln,hq1,hq2,yx]
     refine ⟨_,_,sm,rfl,?_⟩
     refine hK57 _ _ ?_
     clear hK57 K57
     refine jS 5 (fun K58 hK58=>?_)
     simp[go_sem,e0,e8,dr,li1,li2,hL,e5,e6,e7,gM,hln,hq1,hq2,yx]
     refine ⟨_,_,g2,rfl,?_⟩
     refine hK58 _ _ ?_
     clear hK58 K58
     refine jS 2 (fun K59 hK59=>?_)
     simp[go_sem,e0,e8,dr,li1,li2,hL,e5,e6,e7,gM,hln,hq1,hq2,yx]
     refine ⟨_,_,g3,rfl,?_⟩
     refine hK59 _ _ ?_
     clear hK59 K59
     refine jS 5 (fun K60 hK60=>?_)
     simp[go_sem,e0,e8,dr,li1,li2,hL,e5,e6,e7,gM,hln,hq1,hq2,yx]
     refine ⟨_,_,g2,rfl,?_⟩
     refine hK60 _ _ ?_
     clear hK60 K60
     simp[go_sem,e0,e8,dr,li1,li2,hL,e5,e6,e7,gM,hln,hq1,hq2,yx]
     refine hK55 _ _ ?_
     try clear hK55 K55
     refine qj (b:=false) gz (fun h=>by cases h) (fun _=>?_)
     refine ql ?_
     exact ⟨_,_,_,_,_,⟨by simp[go_sem,e0],by simp[go_sem,e1],by simp[go_sem,e5],by simp[go_sem,e6],by simp[go_sem,e7],by simp[go_sem,e8]⟩,k1,k2,k3,qmc,by rw[hLL]; omega,(fun z h1 h2=>d21 z h2 h1),(fun z h1 h2=>d31 z h2 h1),(fun z h1 h2=>d32 z h2 h1)⟩
   clear e0 e1 e5 e6 e7 e8 k1 k2 k3 hlw hml d12 d13 d23
   rintro env H2 ⟨h,hm,O1,O2,O3,⟨e0,e1,e5,e6,e7,e8⟩,k1,k2,k3,hlw,hml,d12,d13,d23⟩
   refine qo (fun K61 hK61=>?_)
   refine qi kz ?_
   simp[go_sem,e8,hw]
   refine hK61 _ _ ?_
   exact ⟨n-(i+1),oz,i+1,rfl,oz,h,hm,O1,O2,O3,⟨by simp[go_sem,e0],by simp[go_sem,e1],by simp[go_sem,e5],by simp[go_sem,e6],by simp[go_sem,e7],gz⟩,k1,k2,k3,hlw,hml,d12,d13,d23⟩
  ·skip
   simp only[decide_eq_false_iff_not] at hb9
   refine qy ?_
   refine hK20 _ _ ?_
   try clear hK20 K20
   refine qg (fun K62 hK62=>?_)
   refine qi kz ?_
   simp[go_sem]
   refine hK62 _ _ ?_
   try clear hK62 K62
   refine qx ?_
   simp only[go_sem]
   refine hR _ _ ?_
   exact qG gz (qP _) (Nat.zero_le _) gz
end Go.Proofs.YtfokgjhdndnnhaaGreatDoor
end X16S
set_option maxRecDepth 20000
noncomputable section G8S
namespace Go.Proofs.YtfokgjhdndnnhaaGreatDoor
open Go Go.Fl Go.Proofs
theorem shp_byte {r:List AV} (h:Shp Tryz.prog 5 r) : ∃ c:UInt8,r = [.sc (.int .u8 c.toNat)]/\True:=by
 obtain ⟨n,e,h1,h2⟩:=h.int_inv tU5
 have k1:(0:Int)<=n:=h1
 have k2:n<=255:=h2
 refine ⟨UInt8.ofNat n.toNat,?_,trivial⟩
 rw[e]
 have:(UInt8.ofNat n.toNat).toNat=n.toNat:=by simp; omega
 rw[this]
 have:((n.toNat:Nat):Int)=n:=oz
 rw[this]
theorem qmd (l:List UInt8):(l.flatMap fun c=>[AV.sc (.int .u8 c.toNat)])=bV l:=by
 induction l with
 | nil=>rfl
 | cons x l ih=>rw[List.flatMap_cons,ih]; rfl
theorem cellsOf5:Tryz.prog.cellsOf 5=1:=kz
theorem cellsOf25:Tryz.prog.cellsOf 25=1:=kz
theorem qhu {r:List AV} (h:Shp Tryz.prog 25 r) : ∃ l:List UInt8,r = [bA l]/\True:=by
 obtain ⟨xs,h1,h2,h3⟩:=Shp.sl_map (f:=fun c:UInt8=>[AV.sc (.int .u8 c.toNat)]) tU25 (fun r hr=>shp_byte hr) h
 refine ⟨xs,?_,trivial⟩
 rw[h1,qmd,cellsOf5]
 rfl
theorem shp_rows {r:List AV} (h:Shp Tryz.prog 38 r) : ∃ l:List (List UInt8),r = [.vs l.length 1 (l.map bA)]:=by
 obtain ⟨xs,h1,h2,h3⟩:=Shp.sl_map (f:=fun c:List UInt8=>[bA c]) tU38 (fun r hr=>qhu hr) h
 refine ⟨xs,?_⟩
 rw[h1,cellsOf25]
 congr 2
 clear h1 h2 h3 h
 induction xs with
 | nil=>rfl
 | cons x l ih=>rw[List.flatMap_cons,ih]; rfl
end Go.Proofs.YtfokgjhdndnnhaaGreatDoor
end G8S
