/- Contracts: the three ways. -/
import Derived.Test.YtfokgjhdndnnhaaGreatDoorFl56
set_option maxHeartbeats 1000000
set_option linter.unusedVariables false
set_option linter.unusedSimpArgs false
set_option maxRecDepth 20000
noncomputable section W30S
namespace Go.Proofs.YtfokgjhdndnnhaaGreatDoor
open Go Go.Fl Go.Proofs
def fixedBits (l:List Tok):List Bool:=natBits 1 0++(natBits 2 1++(toksBits fixS fixD l++symBits fixS 256))
def ownBits (l:List Tok):List Bool:=natBits 1 0++(natBits 2 2++(toldBits (ownX l) (ownY l)++(toksBits (ownX l) (ownY l) l++symBits (ownX l) 256)))
theorem qek (H:Heap):SCalls Tryz.prog 43 [] H (.agg [tabA fixS,tabA fixD]) H:=qO fixed_s (by simp) (by simp[go_sem,zT]) H
theorem own_H (l:List Tok) (hl:l.length<=1000000) (hf : ∀ t∈l,TokFine t) (H:Heap):SCalls Tryz.prog 46 [tA l] H (.tup [iA (ownX l),iA (ownY l),.agg [tabA (ownX l),tabA (ownY l)],.bool true]) H:=qO (own_s l hl hf) (by simp[tA_lt]) (by
 refine .tup ?_
 intro z hz
 simp only[List.mem_cons,List.not_mem_nil,or_false] at hz
 rcases hz with rfl | rfl | rfl | rfl
 ·rw[zI]; trivial
 ·rw[zI]; trivial
 ·exact .agg (by intro z hz; simp only[List.mem_cons,List.not_mem_nil,or_false] at hz; rcases hz with rfl | rfl <;> (rw[zT]; trivial))
 ·exact .sc _) H
theorem qel {t:Tok} (h:TokFine t):TokOk fixS fixD t:=by
 rcases h with h | ⟨h1,h2,h3,h4⟩
 ·exact .inl ⟨h,qbx (by have:=t.c.toNat_lt; omega)⟩
 ·exact .inr ⟨h1,h2,h3,h4,qbx (by have:=(zZ h1 h2).2.2; omega),fixD_pos (by have:=(zS h3 h4).2.2; omega)⟩
theorem qjp {l:List Tok} (hf : ∀ t∈l,TokFine t) : ∀ t∈l,TokOk (ownX l) (ownY l) t:=by
 intro t ht
 have hx:=fun {s:Nat} (h:0<(countedL l).1.getD s 0)=>jO (most:=15) (counts:=(countedL l).1) dz dz (qao l).1 h
 have hy:=fun {s:Nat} (h:0<(countedL l).2.getD s 0)=>jO (most:=15) (counts:=(countedL l).2) dz dz (qao l).2 h
 rcases qjl hf t ht with ⟨h,hp⟩ | ⟨h,hp,hq⟩
 ·exact .inl ⟨h,hx hp⟩
 ·obtain ⟨h1,h2,h3,h4⟩:=(hf t ht).resolve_left h
  exact .inr ⟨h1,h2,h3,h4,hx hp,hy hq⟩
theorem qjq (l:List Tok):0<(ownX l).getD 256 0:=jO (most:=15) (counts:=(countedL l).1) dz dz (qao l).1 (qjk l)
theorem way1_p {b:List UInt8} {bb lb:Nat} (h0:0<b.length) (hb:b.length<=65535) {H:Heap} (gb:H.get bb=some [bA b]) (gl:H.get lb=some [.bool false]):SCallsP Tryz.prog 38 [.ptr bb 0,.ptr lb 0] H (fun r H' => ∃ w,r = .ptr w 0/\WrN (fun b=>b<H.next) H' w (storedBits b)/\Step (fun b=>b<H.next) H H'):=by
 refine qA (sz:=6) (Tryz.call38) Tryz.func38 rfl kz (fun R hR=>?_)
 refine qg (fun K1 hK1=>?_)
 refine qi kz ?_
 simp[go_sem]
 refine hK1 _ _ ?_
 try clear hK1 K1
 refine qg (fun K2 hK2=>?_)
 refine qp kz ?_
 refine qH 3 (fun K3 hK3=>?_)
 simp[go_sem,gb,gl]
 refine ⟨_,(stored_p b h0 hb H),?_⟩
 rintro _ H1 hn1 ⟨w,rfl,hW1,hS1⟩
 refine hK3 _ _ ?_
 clear hK3 K3
 simp[go_sem,gb,gl]
 refine hK2 _ _ ?_
 try clear hK2 K2
 refine qx ?_
 simp only[go_sem]
 refine hR _ _ ?_
 refine hS1.retP (r:=.ptr w 0) gz ⟨w,rfl,hW1,hS1⟩ ?_
 obtain ⟨x,_,g,_⟩:=hW1
 have:=Heap.lt_of_get g
 simp[go_sem,this]
theorem way2_p {l:List Tok} {lb tb:Nat} (hf : ∀ t∈l,TokFine t) (hl:l.length<=1000000) {H:Heap} (gl:H.get lb=some [.bool false]) (gt:H.get tb=some [tA l]):SCallsP Tryz.prog 40 [.ptr lb 0,.ptr tb 0] H (fun r H' => ∃ w,r = .ptr w 0/\WrN (fun b=>b<H.next) H' w (fixedBits l)/\Step (fun b=>b<H.next) H H'):=by
 refine qA (sz:=16) (Tryz.call40) Tryz.func40 rfl kz (fun R hR=>?_)
 refine qg (fun K1 hK1=>?_)
 refine qi kz ?_
 simp[go_sem]
 refine hK1 _ _ ?_
 try clear hK1 K1
 refine qw (fun env H1 => ∃ w,(env 0 = .ptr lb 0/\env 1 = .ptr tb 0/\env 3 = .ptr w 0)/\WrN (fun b=>b<H.next) H1 w []/\Step (fun b=>b<H.next) H H1) ?_ ?_
 ·skip
  refine qo (fun K3 hK3=>?_)
  refine qp kz ?_
  refine qH 1 (fun K4 hK4=>?_)
  simp[go_sem]
  refine ⟨_,(qoq H),?_⟩
  rintro _ H1 hn1 ⟨w,rfl,hw0,hW1,hS1⟩
  refine hK4 _ _ ?_
  clear hK4 K4
  simp[go_sem]
  refine hK3 _ _ ?_
  exact ⟨w,⟨gz,gz,gz⟩,hW1,hS1⟩
 rintro env H1 ⟨w,⟨e0,e1,e3⟩,hW1,hS1⟩
 have gl1:=hS1.get gl (Heap.lt_of_get gl)
 have cp1:=qar (fun b=>b<H.next) w 1 0 [] dz dz (by simp) hW1
 refine qg (fun K5 hK5=>?_)
 refine qp kz ?_
 refine qH 3 (fun K6 hK6=>?_)
 simp[go_sem,e0,e3,gl1]
 refine ⟨_,(qba _).p,?_⟩
 rintro _ _ hn0 ⟨rfl,rfl⟩
 refine hK6 _ _ ?_
 clear hK6 K6
 simp[go_sem,e0,e3,gl1]
 refine ⟨_,cp1,?_⟩
 rintro _ H3 hn3 ⟨rfl,hW3,hS3⟩
 rw[List.nil_append] at hW3
 have cp2:=qar (fun b=>b<H.next) w 2 1 (natBits 1 0) dz dz dz hW3
 refine hK5 _ _ ?_
 try clear hK5 K5
 refine qw (fun env H5=>(env 1 = .ptr tb 0/\env 3 = .ptr w 0)/\WrN (fun b=>b<H.next) H5 w (natBits 1 0++natBits 2 1)/\Step (fun b=>b<H.next) H H5) ?_ ?_
 ·skip
  refine qo (fun K9 hK9=>?_)
  refine qp kz ?_
  simp[go_sem,e3]
  refine ⟨_,cp2,?_⟩
  rintro _ H4 hn4 ⟨rfl,hW4,hS4⟩
  refine hK9 _ _ ?_
  exact ⟨⟨by simp[go_sem,e1],by simp[go_sem,e3]⟩,hW4,(hS1.trans hS3).trans hS4⟩
 clear e0 e1 e3
 rintro env H5 ⟨⟨e1,e3⟩,hW5,hS5⟩
 have glt3:=hS5.get gt (Heap.lt_of_get gt)
 have cp4:=cput_p qgj qgk l (fun t ht=>qel (hf t ht)) (qbx dz) (by have:(natBits 1 0++natBits 2 1).length=3:=rfl; omega) hW5
 refine qw (fun env H6=>env 3 = .ptr w 0/\WrN (fun b=>b<H.next) H6 w (natBits 1 0++natBits 2 1++(toksBits fixS fixD l++symBits fixS 256))/\Step (fun b=>b<H.next) H H6) ?_ ?_
 ·skip
  refine qo (fun K96 hK96=>?_)
  refine ql6 mixed ?_
  refine qV (l:=[0,1,2]) kz kz dz (fun k hk=>?_)
  simp only[List.mem_cons,List.not_mem_nil,or_false] at hk
  rcases hk with rfl | rfl | rfl
  ·refine ⟨_,rfl,?_⟩
   simp[go_sem,e1,e3,glt3]
   refine ⟨_,(qek _).p,?_⟩
   rintro _ _ hn0 ⟨rfl,rfl⟩
   refine qV (l:=[1,2]) kz kz dz (fun k hk=>?_)
   simp only[List.mem_cons,List.not_mem_nil,or_false] at hk
   rcases hk with rfl | rfl
   ·refine ⟨_,rfl,?_⟩
    simp[go_sem,e1,e3,glt3]
    refine qV (l:=[2]) kz kz dz (fun k hk=>?_)
    simp only[List.mem_cons,List.not_mem_nil,or_false] at hk
    subst hk
    refine ⟨_,rfl,?_⟩
    simp[go_sem,e1,e3,glt3]
    refine qV (l:=[3]) kz kz dz (fun k hk=>?_)
    simp only[List.mem_cons,List.not_mem_nil,or_false] at hk
    subst hk
    refine ⟨_,rfl,?_⟩
    simp[go_sem,e3,glt3]
    refine ⟨_,cp4,?_⟩
    rintro _ H6 hn6 ⟨rfl,hW6,hS6⟩
    refine jd kz ?_
    refine hK96 _ _ ?_
    exact ⟨by simp[go_sem,e3],hW6,hS5.trans hS6⟩
   ·refine ⟨_,rfl,?_⟩
    simp[go_sem,e1,e3,glt3]
    refine qV (l:=[1]) kz kz dz (fun k hk=>?_)
    simp only[List.mem_cons,List.not_mem_nil,or_false] at hk
    subst hk
    refine ⟨_,rfl,?_⟩
    simp[go_sem,e1,e3,glt3]
    refine qV (l:=[3]) kz kz dz (fun k hk=>?_)
    simp only[List.mem_cons,List.not_mem_nil,or_false] at hk
    subst hk
    refine ⟨_,rfl,?_⟩
    simp[go_sem,e3,glt3]
    refine ⟨_,cp4,?_⟩
    rintro _ H6 hn6 ⟨rfl,hW6,hS6⟩
    refine jd kz ?_
    refine hK96 _ _ ?_
    exact ⟨by simp[go_sem,e3],hW6,hS5.trans hS6⟩
  ·refine ⟨_,rfl,?_⟩
   simp[go_sem,e1,e3,glt3]
   refine qV (l:=[0,2]) kz kz dz (fun k hk=>?_)
   simp only[List.mem_cons,List.not_mem_nil,or_false] at hk
   rcases hk with rfl | rfl
   ·refine ⟨_,rfl,?_⟩
    simp[go_sem,e1,e3,glt3]
    refine ⟨_,(qek _).p,?_⟩
    rintro _ _ hn0 ⟨rfl,rfl⟩
    refine qV (l:=[2]) kz kz dz (fun k hk=>?_)
    simp only[List.mem_cons,List.not_mem_nil,or_false] at hk
    subst hk
    refine ⟨_,rfl,?_⟩
    simp[go_sem,e1,e3,glt3]
    refine qV (l:=[3]) kz kz dz (fun k hk=>?_)
    simp only[List.mem_cons,List.not_mem_nil,or_false] at hk
    subst hk
    refine ⟨_,rfl,?_⟩
    simp[go_sem,e3,glt3]
    refine ⟨_,cp4,?_⟩
    rintro _ H6 hn6 ⟨rfl,hW6,hS6⟩
    refine jd kz ?_
    refine hK96 _ _ ?_
    exact ⟨by simp[go_sem,e3],hW6,hS5.trans hS6⟩
   ·refine ⟨_,rfl,?_⟩
    simp[go_sem,e1,e3,glt3]
    refine qV (l:=[0]) kz kz dz (fun k hk=>?_)
    simp only[List.mem_cons,List.not_mem_nil,or_false] at hk
    subst hk
    refine ⟨_,rfl,?_⟩
    simp[go_sem,e1,e3,glt3]
    refine ⟨_,(qek _).p,?_⟩
    rintro _ _ hn0 ⟨rfl,rfl⟩
    refine qV (l:=[3]) kz kz dz (fun k hk=>?_)
    simp only[List.mem_cons,List.not_mem_nil,or_false] at hk
    subst hk
    refine ⟨_,rfl,?_⟩
    simp[go_sem,e3,glt3]
    refine ⟨_,cp4,?_⟩
    rintro _ H6 hn6 ⟨rfl,hW6,hS6⟩
    refine jd kz ?_
    refine hK96 _ _ ?_
    exact ⟨by simp[go_sem,e3],hW6,hS5.trans hS6⟩
  ·refine ⟨_,rfl,?_⟩
   simp[go_sem,e1,e3,glt3]
   refine qV (l:=[0,1]) kz kz dz (fun k hk=>?_)
   simp only[List.mem_cons,List.not_mem_nil,or_false] at hk
   rcases hk with rfl | rfl
   ·refine ⟨_,rfl,?_⟩
    simp[go_sem,e1,e3,glt3]
    refine ⟨_,(qek _).p,?_⟩
    rintro _ _ hn0 ⟨rfl,rfl⟩
    refine qV (l:=[1]) kz kz dz (fun k hk=>?_)
    simp only[List.mem_cons,List.not_mem_nil,or_false] at hk
    subst hk
    refine ⟨_,rfl,?_⟩
    simp[go_sem,e1,e3,glt3]
    refine qV (l:=[3]) kz kz dz (fun k hk=>?_)
    simp only[List.mem_cons,List.not_mem_nil,or_false] at hk
    subst hk
    refine ⟨_,rfl,?_⟩
    simp[go_sem,e3,glt3]
    refine ⟨_,cp4,?_⟩
    rintro _ H6 hn6 ⟨rfl,hW6,hS6⟩
    refine jd kz ?_
    refine hK96 _ _ ?_
    exact ⟨by simp[go_sem,e3],hW6,hS5.trans hS6⟩
   ·refine ⟨_,rfl,?_⟩
    simp[go_sem,e1,e3,glt3]
    refine qV (l:=[0]) kz kz dz (fun k hk=>?_)
    simp only[List.mem_cons,List.not_mem_nil,or_false] at hk
    subst hk
    refine ⟨_,rfl,?_⟩
    simp[go_sem,e1,e3,glt3]
    refine ⟨_,(qek _).p,?_⟩
    rintro _ _ hn0 ⟨rfl,rfl⟩
    refine qV (l:=[3]) kz kz dz (fun k hk=>?_)
    simp only[List.mem_cons,List.not_mem_nil,or_false] at hk
    subst hk
    refine ⟨_,rfl,?_⟩
    simp[go_sem,e3,glt3]
    refine ⟨_,cp4,?_⟩
    rintro _ H6 hn6 ⟨rfl,hW6,hS6⟩
    refine jd kz ?_
    refine hK96 _ _ ?_
    exact ⟨by simp[go_sem,e3],hW6,hS5.trans hS6⟩
 rintro env H6 ⟨e3,hWf,hSf⟩
 rw[List.append_assoc] at hWf
 refine qg (fun K12 hK12=>?_)
 refine qi kz ?_
 simp[go_sem,e3]
 refine hK12 _ _ ?_
 try clear hK12 K12
 refine qx ?_
 simp only[go_sem]
 refine hR _ _ ?_
 refine hSf.retP (r:=.ptr w 0) gz ⟨w,rfl,hWf,hSf⟩ ?_
 obtain ⟨x,_,g,_⟩:=hWf
 have:=Heap.lt_of_get g
 simp[go_sem,this]
theorem told_len (x y:List Nat) (hx:x.length=286) (hy:y.length=30) (hx15 : ∀ s,x.getD s 0<=15) (hy15 : ∀ s,y.getD s 0<=15):(toldBits x y).length<=6000:=by
 have h1:=zW (l:=x) (n:=257) oz
 have h2:=zW (l:=y) (n:=1) oz
 have hok:=qbu (most:=7) (counts:=cntL (allL x y)) dz dz (npos19 _) (by rw[zN]; decide)
 have h3:=jl (symBits (metaL x y)) 15 (allL x y) (fun v _=>by rw[qN]; exact hok.le v)
 have h4:=jl (fun k=>natBits 3 ((metaL x y).getD k 0)) 3 ordL (fun v _=>by rw[qB]; omega)
 have h5:ordL.length=19:=rfl
 have h6:(allL x y).length=(trimL x 257).length+(trimL y 1).length:=by unfold allL; rw[List.length_append]
 unfold toldBits
 simp only[List.length_append,qB]
 omega
theorem way3_p {l:List Tok} {bb lb tb:Nat} (hf : ∀ t∈l,TokFine t) (hl:l.length<=1000000) {H:Heap} (gl:H.get lb=some [.bool false]) (gt:H.get tb=some [tA l]):SCallsP Tryz.prog 45 [.ptr tb 0,.ptr bb 0,.ptr lb 0] H (fun r H' => ∃ w,r = .ptr w 0/\WrN (fun b=>b<H.next) H' w (ownBits l)/\Step (fun b=>b<H.next) H H'):=by
 obtain ⟨cx,hcx⟩ : ∃ z,tabC (ownX l)=z:=⟨_,rfl⟩
 obtain ⟨cy,hcy⟩ : ∃ z,tabC (ownY l)=z:=⟨_,rfl⟩
 have hza:tabA (ownX l) = .ep cx:=by unfold tabA; rw[hcx]
 have hzb:tabA (ownY l) = .ep cy:=by unfold tabA; rw[hcy]
 have co:=own_H l hl hf H
 obtain ⟨xa,hxa⟩ : ∃ z,iA (ownX l)=z:=⟨_,rfl⟩
 obtain ⟨xb,hxb⟩ : ∃ z,iA (ownY l)=z:=⟨_,rfl⟩
 have hLx : ∀ n,xa.Lt n:=fun n=>by rw[<- hxa,zI]; trivial
 have hcxl : ∀ n,(AV.ep cx).Lt n:=fun n=>by rw[<- hza,zT]; trivial
 have hcyl : ∀ n,(AV.ep cy).Lt n:=fun n=>by rw[<- hzb,zT]; trivial
 rw[hxa,hxb,hza,hzb] at co
 refine qA (sz:=37) (Tryz.call45) Tryz.func45 rfl kz (fun R hR=>?_)
 refine qg (fun K1 hK1=>?_)
 refine qi kz ?_
 simp[go_sem]
 refine hK1 _ _ ?_
 try clear hK1 K1
 refine qw (fun env H1 => ∃ cb,(env 0 = .ptr tb 0/\env 2 = .ptr lb 0/\env 4=xa/\env 5=xb/\env 6 = .ptr cb 0/\env 7 = .bool true)/\H1.get cb=some [.ep cx,.ep cy]/\H.next<=cb/\Step (fun b=>b<H.next) H H1) ?_ ?_
 ·skip
  refine qo (fun K3 hK3=>?_)
  refine qi kz ?_
  refine qI 2 (fun K4 hK4=>?_)
  simp[go_sem,gt]
  refine ⟨_,_,co,?_⟩
  refine hK4 _ _ ?_
  clear hK4 K4
  simp[go_sem,gt]
  refine hK3 _ _ ?_
  exact ⟨H.next,⟨gz,gz,gz,gz,gz,gz⟩,gz,Nat.le_refl _,((Step.refl _ _).alloc gz).set (Nat.lt_irrefl _) (by intro z hz; simp only[List.mem_cons,List.not_mem_nil,or_false] at hz; rcases hz with rfl | rfl; exact hcxl _; exact hcyl _)⟩
 rintro env H1 ⟨cb,⟨e0,e2,e4,e5,e6,e7⟩,gcb,hcb0,hS0⟩
 refine qg (fun K5 hK5=>?_)
 refine qg (fun K6 hK6=>?_)
 refine qi kz ?_
 simp[go_sem,e7]
 refine hK6 _ _ ?_
 try clear hK6 K6
 refine qj (b:=false) (by simp[go_sem,e7]) (fun h=>by cases h) (fun _=>?_)
 refine ql ?_
 refine hK5 _ _ ?_
 try clear hK5 K5
 refine qw (fun env H2 => ∃ w,(env 0 = .ptr tb 0/\env 2 = .ptr lb 0/\env 4=xa/\env 5=xb/\env 6 = .ptr cb 0/\env 8 = .ptr w 0)/\WrN (fun z=>z<H1.next) H2 w []/\Step (fun z=>z<H1.next) H1 H2) ?_ ?_
 ·skip
  refine qo (fun K8 hK8=>?_)
  refine qp kz ?_
  refine qH 1 (fun K9 hK9=>?_)
  simp[go_sem]
  refine ⟨_,(qoq H1),?_⟩
  rintro _ H2 hn2 ⟨w,rfl,hw0,hW2,hS2⟩
  refine hK9 _ _ ?_
  clear hK9 K9
  simp[go_sem]
  refine hK8 _ _ ?_
  exact ⟨w,⟨by simp[go_sem,e0],by simp[go_sem,e2],by simp[go_sem,e4],by simp[go_sem,e5],by simp[go_sem,e6],gz⟩,hW2,hS2⟩
 clear e0 e2 e4 e5 e6 e7
 rintro env H2 ⟨w,⟨e0,e2,e4,e5,e6,e8⟩,hW2,hS2⟩
 have gl1:=hS2.get (hS0.get gl (Heap.lt_of_get gl)) (by have:=Heap.lt_of_get gl; have:=hS0.le; show _<_; omega)
 have cp1:=qar (fun z=>z<H1.next) w 1 0 [] dz dz (by simp) hW2
 refine qg (fun K10 hK10=>?_)
 refine qp kz ?_
 refine qH 3 (fun K11 hK11=>?_)
 simp[go_sem,e2,e8,gl1]
 refine ⟨_,(qba _).p,?_⟩
 rintro _ _ hn0 ⟨rfl,rfl⟩
 refine hK11 _ _ ?_
 clear hK11 K11
 simp[go_sem,e2,e8,gl1]
 refine ⟨_,cp1,?_⟩
 rintro _ H3 hn3 ⟨rfl,hW3,hS3⟩
 rw[List.nil_append] at hW3
 have cp2:=qar (fun z=>z<H1.next) w 2 2 (natBits 1 0) dz dz dz hW3
 refine hK10 _ _ ?_
 try clear hK10 K10
 refine qg (fun K13 hK13=>?_)
 refine qp kz ?_
 simp[go_sem,e8]
 refine ⟨_,cp2,?_⟩
 rintro _ H4 hn4 ⟨rfl,hW4,hS4⟩
 have l3:(natBits 1 0++natBits 2 2).length=3:=rfl
 have cp3:=told_p (x:=ownX l) (y:=ownY l) (jA l).len (jB l).len (qa8 l).le (qa9 l).le oz hW4
 rw[hxa,hxb] at cp3
 refine hK13 _ _ ?_
 try clear hK13 K13
 refine qw (fun env H6=>(env 0 = .ptr tb 0/\env 6 = .ptr cb 0/\env 8 = .ptr w 0)/\WrN (fun z=>z<H1.next) H6 w (natBits 1 0++natBits 2 2++toldBits (ownX l) (ownY l))/\Step (fun z=>z<H1.next) H1 H6) ?_ ?_
 ·skip
  refine qo (fun K16 hK16=>?_)
  refine qp kz ?_
  simp[go_sem,e4,e5,e8]
  refine ⟨_,cp3,?_⟩
  rintro _ H5 hn5 ⟨rfl,hW5,hS5⟩
  refine hK16 _ _ ?_
  exact ⟨⟨by simp[go_sem,e0],by simp[go_sem,e6],by simp[go_sem,e8]⟩,hW5,((hS2.trans hS3).trans hS4).trans hS5⟩
 clear e0 e2 e4 e5 e6 e8
 rintro env H6 ⟨⟨e0,e6,e8⟩,hW6,hS6⟩
 have gt6:=hS6.get (hS0.get gt (Heap.lt_of_get gt)) (by have:=Heap.lt_of_get gt; have:=hS0.le; show _<_; omega)
 have gc6:=hS6.get gcb (Heap.lt_of_get gcb)
 have htl:(toldBits (ownX l) (ownY l)).length<=6000:=told_len _ _ (jA l).len (jB l).len (qa8 l).le (qa9 l).le
 have cp4:=cput_p (qa8 l) (qa9 l) l (qjp hf) (qjq l) (by have l3:(natBits 1 0++natBits 2 2).length=3:=rfl; rw[List.length_append]; omega) hW6
 rw[hza,hzb] at cp4
 refine qg (fun K18 hK18=>?_)
 refine qp kz ?_
 simp[go_sem,e0,e6,e8,gt6,gc6]
 refine ⟨_,cp4,?_⟩
 rintro _ H7 hn7 ⟨rfl,hW7,hS7⟩
 refine hK18 _ _ ?_
 try clear hK18 K18
 refine qg (fun K20 hK20=>?_)
 refine qi kz ?_
 simp[go_sem,e8]
 refine hK20 _ _ ?_
 try clear hK20 K20
 refine qx ?_
 simp only[go_sem]
 refine hR _ _ ?_
 have hSf:=hS0.trans ((hS6.trans hS7).mono fun z hz=>by have:=hS0.le; show z<_; have h9:z<H.next:=hz; omega)
 have hWf:WrN (fun b=>b<H.next) H7 w (ownBits l):=by
  have h9:=hW7.mono (S':=(fun b=>b<H.next)) (fun z hz=>by have:=hS0.le; show z<_; have h9:z<H.next:=hz; omega)
  unfold ownBits
  simpa only [List.append_assoc] using h9
 refine hSf.retP (r:=.ptr w 0) gz ⟨w,rfl,hWf,hSf⟩ ?_
 obtain ⟨x,_,g,_⟩:=hWf
 have:=Heap.lt_of_get g
 simp[go_sem,this]
end Go.Proofs.YtfokgjhdndnnhaaGreatDoor
end W30S
set_option maxRecDepth 20000
noncomputable section W31S
namespace Go.Proofs.YtfokgjhdndnnhaaGreatDoor
open Go Go.Fl Go.Proofs
def wayA (b:List UInt8) (l:List Tok):List Bool:=if (fixedBits l).length<(storedBits b).length then fixedBits l else storedBits b
def wayB (b:List UInt8) (l:List Tok):List Bool:=if (ownBits l).length<(wayA b l).length then ownBits l else wayA b l
def bestBits (h b:List UInt8):List Bool:=wayB b (tokensL h b)
theorem qk8 {S:Nat->Prop} {w:Nat} {l:List Bool} {H:Heap} (hW:WrN S H w l):SCalls Tryz.prog 48 [.ptr w 0] H (.int (l.length:Nat)) H:=by
 obtain ⟨x,_,gw,_,_,_⟩:=hW
 exact wlen_w (z:=.int 0) gw
theorem qoy : ∀ (l:List Tok) (n:Nat),okT l n -> ∀ t∈l,TokFine t
 | [],_,_=>fun _ h=>by cases h
 | t::l,n,h=>fun x hx=>by
  rcases List.mem_cons.1 hx with rfl | hx
  ·rcases h.1 with h1 | h1
   ·exact .inl h1.1
   ·exact .inr ⟨h1.1,h1.2.1,h1.2.2.1,h1.2.2.2.1⟩
  ·exact qoy l _ h.2 x hx
theorem jV (h b:List UInt8) : ∀ t∈tokensL h b,TokFine t:=qoy _ _ (yJ h b).1
theorem qib (all:Byt) : ∀ (f k:Nat) (seen:Seen),(tokGo all f k seen).length<=f
 | 0,_,_=>Nat.le_refl _
 | f+1,k,seen=>by
  simp only[tokGo]
  split
  ·simp only[List.length_cons]
   have:=qib all f (k+(tokAt all k seen).len) (noteR all k (tokAt all k seen).len seen)
   omega
  ·simp
theorem qmo (h b:List UInt8):(tokensL h b).length<=b.length:=qib _ _ _ _
theorem zrep13 (a:AV):zrep [a] 3 = [a,a,a]:=by
 unfold zrep
 simp[List.range_succ,Nat.mod_one]
def wF1 (bb lb:Nat):AV:=.fn (.func 38) [] [.ptr bb 0,.ptr lb 0]
def wF2 (lb tb:Nat):AV:=.fn (.func 40) [] [.ptr lb 0,.ptr tb 0]
def wF3 (tb bb lb:Nat):AV:=.fn (.func 45) [] [.ptr tb 0,.ptr bb 0,.ptr lb 0]
theorem qmp {S:Nat->Prop} {x:AV} {h b:List UInt8} (h0:0<b.length) (hh:h.length<=40000) (hb:b.length<=10000) {H:Heap} (hx:HistB S H x h):SCallsP Tryz.prog 22 [x,bA b,.bool false] H (fun r H' => ∃ w,r = .ptr w 0/\WrN (fun z=>z<H.next) H' w (bestBits h b)/\Step (fun z=>z<H.next) H H'):=by
 obtain ⟨l,hl⟩ : ∃ z,tokensL h b=z:=⟨_,rfl⟩
 have hlf:=jV h b
 have hll:=qmo h b
 have hbq:bestBits h b=wayB b l:=by unfold bestBits; rw[hl]
 rw[hl] at hlf hll
 rw[hbq]
 refine qA (sz:=41) (Tryz.call22) Tryz.func22 rfl kz (fun R hR=>?_)
 refine qw (fun env H2 => ∃ bb lb,(env 0=x/\env 4 = .ptr bb 0/\env 5 = .ptr lb 0)/\H2.get bb=some [bA b]/\H2.get lb=some [.bool false]/\H.next<=bb/\H.next<=lb/\Step (fun z=>z<H.next) H H2) ?_ ?_
 ·skip
  refine qo (fun K2 hK2=>?_)
  refine qi kz ?_
  simp[go_sem]
  refine hK2 _ _ ?_
  exact ⟨H.next,H.next+1,⟨gz,gz,gz⟩,gz,gz,oz,oz,((Step.refl _ _).alloc (by intro z hz; simp only[List.mem_singleton] at hz; subst hz; rw[qgu]; trivial)).alloc gz⟩
 rintro env H1 ⟨bb,lb,⟨e0,e4,e5⟩,gb,gl,nbb,nlb,hS1⟩
 have hx1:=hx.mono (S':=fun _=>False) (fun _ h=>h.elim)
 have hx2:HistB (fun _=>False) H1 x h:=hx1.keep hS1 (fun z hz=>hz)
 have ct:=tokens_p h0 hh hb hx2
 refine qw (fun env H2 => ∃ tb,(env 4 = .ptr bb 0/\env 5 = .ptr lb 0/\env 7 = .ptr tb 0)/\H2.get bb=some [bA b]/\H2.get lb=some [.bool false]/\H2.get tb=some [tA l]/\Step (fun z=>z<H.next) H H2) ?_ ?_
 ·skip
  refine qo (fun K4 hK4=>?_)
  refine qp kz ?_
  refine qH 3 (fun K5 hK5=>?_)
  simp[go_sem,e0,e4,gb]
  refine ⟨_,ct,?_⟩
  rintro _ H2 hn2 ⟨rfl,hS2⟩
  rw[hl]
  have gb2:=hS2.get gb (Heap.lt_of_get gb)
  have gl2:=hS2.get gl (Heap.lt_of_get gl)
  obtain ⟨ta,hta⟩ : ∃ z,tA l=z:=⟨_,rfl⟩
  have htl:ta.leaf=true/\acells ta=some [ta] /\ ∀ n,ta.Lt n:=by rw[<- hta]; exact ⟨rfl,rfl,fun n=>by rw[tA_lt]; trivial⟩
  refine hK5 _ _ ?_
  clear hK5 K5
  simp[go_sem,tA]
  refine hK4 _ _ ?_
  have nb2:=Heap.lt_of_get gb2
  have nl2:=Heap.lt_of_get gl2
  refine ⟨H2.next,⟨by simp[go_sem,e4],by simp[go_sem,e5],gz⟩,?_,?_,by simp[go_sem,tA],(((hS1.trans (hS2.mono fun z hz=>by have:=hS1.le; show z<_; have h9:z<H.next:=hz; omega)).alloc gz).set (by show ¬ (_<_); have:=hS1.le; omega) (by intro z hz; simp only[List.mem_singleton] at hz; subst hz; exact .vs (tV_lt l _)))⟩
  ·rw[Heap.get_set,if_neg oz,Heap.get_alloc,if_neg oz]; exact gb2
  ·rw[Heap.get_set,if_neg oz,Heap.get_alloc,if_neg oz]; exact gl2
 clear e0 e4 e5
 rintro env H2 ⟨tb,⟨e4,e5,e7⟩,gb,gl,gt,hS⟩
 refine qw (fun env H2=>(env 8 = .vs 3 1 [wF1 bb lb,wF2 lb tb,wF3 tb bb lb])/\H2.get bb=some [bA b]/\H2.get lb=some [.bool false]/\H2.get tb=some [tA l]/\Step (fun z=>z<H.next) H H2) ?_ ?_
 ·skip
  refine qo (fun K99 hK99=>?_)
  refine qM kz ?_
  refine jf 3 (fun K90 hK90=>?_)
  simp[go_sem,e4,e5,e7]
  refine hK90 _ _ ?_
  clear hK90 K90
  refine jE (.vs 3 1 [wF1 bb lb,wF2 lb tb,wF3 tb bb lb]) ((H2.alloc [wF1 bb lb,wF2 lb tb,wF3 tb bb lb]).del H2.next) rfl (jM (by simp[go_sem,wF1,wF2,wF3,zrep13]) rfl) ?_
  refine zJ ?_
  simp[go_sem]
  refine hK99 _ _ ?_
  have hS9:Step (fun z=>z<H2.next) H2 ((H2.alloc [wF1 bb lb,wF2 lb tb,wF3 tb bb lb]).del H2.next):=zH ((Step.refl _ _).alloc (by have nb2:=Heap.lt_of_get gb; have nl2:=Heap.lt_of_get gl; have nt2:=Heap.lt_of_get gt; simp[go_sem,wF1,wF2,wF3]; omega)) (Nat.lt_irrefl _)
  exact ⟨gz,hS9.get gb (Heap.lt_of_get gb),hS9.get gl (Heap.lt_of_get gl),hS9.get gt (Heap.lt_of_get gt),hS.trans (hS9.mono fun z hz=>by have:=hS.le; show z<_; have h9:z<H.next:=hz; omega)⟩
 clear e4 e5 e7 gb gl gt hS
 rintro env H2 ⟨e8,gb,gl,gt,hS⟩
 have c1:=way1_p h0 oz gb gl
 refine qw (fun env H2 => ∃ w,(env 8 = .vs 3 1 [wF1 bb lb,wF2 lb tb,wF3 tb bb lb]/\env 9 = .ptr w 0)/\H2.get bb=some [bA b]/\H2.get lb=some [.bool false]/\H2.get tb=some [tA l]/\WrN (fun z=>z<H.next) H2 w (storedBits b)/\Step (fun z=>z<H.next) H H2) ?_ ?_
 ·skip
  refine qo (fun K8 hK8=>?_)
  refine qp kz ?_
  refine qH 4 (fun K9 hK9=>?_)
  simp[go_sem,e8,wF1]
  refine ⟨_,c1,?_⟩
  rintro _ H3 hn3 ⟨w,rfl,hW3,hS3⟩
  refine hK9 _ _ ?_
  clear hK9 K9
  simp[go_sem,e8,wF1]
  refine hK8 _ _ ?_
  have hm : ∀ z,z<H.next->z<H2.next:=fun z hz=>by have:=hS.le; omega
  exact ⟨w,⟨by simp[go_sem,e8],gz⟩,hS3.get gb (Heap.lt_of_get gb),hS3.get gl (Heap.lt_of_get gl),hS3.get gt (Heap.lt_of_get gt),hW3.mono hm,hS.trans (hS3.mono hm)⟩
 clear e8 gb gl gt hS
 rintro env H2 ⟨w,⟨e8,e9⟩,gb,gl,gt,hW,hS⟩
 refine qg (fun K10 hK10=>?_)
 refine qg (fun K11 hK11=>?_)
 refine qi kz ?_
 simp[go_sem,e8]
 refine hK11 _ _ ?_
 try clear hK11 K11
 refine qm ?_
 refine qC (Inv:=fun m0 env H2 => ∃ (i w:Nat) (bs:List Bool),m0=2-i/\i<=2/\bs=(if i=0 then storedBits b else if i=1 then wayA b l else wayB b l)/\env 9 = .ptr w 0/\env 25 = .vs 2 1 [wF2 lb tb,wF3 tb bb lb]/\env 26 = .int 2/\env 27 = .int i/\H2.get bb=some [bA b]/\H2.get lb=some [.bool false]/\H2.get tb=some [tA l]/\WrN (fun z=>z<H.next) H2 w bs/\Step (fun z=>z<H.next) H H2) ?_ (n:=2) (⟨0,w,storedBits b,rfl,oz,rfl,by simp[go_sem,e9],by simp[go_sem,wF1],gz,gz,gb,gl,gt,hW,hS⟩)
 clear e8 e9 gb gl gt hW hS
 rintro m0 env H2 ⟨i,w,bs,rfl,hi,hbs,e9,e25,e26,e27,gb,gl,gt,hW,hS⟩
 have hm : ∀ z,z<H.next->z<H2.next:=fun z hz=>by have:=hS.le; omega
 refine qg (fun K12 hK12=>?_)
 refine qi kz ?_
 simp[go_sem,e26,e27]
 refine hK12 _ _ ?_
 try clear hK12 K12
 refine qg (fun K13 hK13=>?_)
 have h2i:((i:Int)<2)=(i<2):=propext ⟨fun h=>by omega,fun h=>by omega⟩
 refine qj (b:=decide (i<2)) (by simp[go_sem,h2i]) (fun hb=>?_) (fun hb=>?_)
 ·skip
  simp only[decide_eq_true_eq] at hb
  refine ql ?_
  refine hK13 _ _ ?_
  try clear hK13 K13
  refine qw (fun env H3=>(env 25 = .vs 2 1 [wF2 lb tb,wF3 tb bb lb]/\env 26 = .int 2/\env 27 = .int i) /\ ∃ w9 bs9,bs9=(if i+1=0 then storedBits b else if i+1=1 then wayA b l else wayB b l)/\env 9 = .ptr w9 0/\(H3.get bb=some [bA b]/\H3.get lb=some [.bool false]/\H3.get tb=some [tA l])/\WrN (fun z=>z<H.next) H3 w9 bs9/\Step (fun z=>z<H.next) H H3) ?_ ?_
  ·skip
   refine qm ?_
   refine qg (fun K15 hK15=>?_)
   rcases (by omega:i=0\/i=1) with rfl | rfl
   ·skip
    have hres:(if 0+1=0 then storedBits b else if 0+1=1 then wayA b l else wayB b l)=if (fixedBits l).length<bs.length then fixedBits l else bs:=by rw[hbs]; rfl
    have cw:=way2_p hlf oz gl gt
    obtain ⟨bs2,hbs2⟩ : ∃ z,fixedBits l=z:=⟨_,rfl⟩
    rw[hbs2] at hres cw
    refine qi kz ?_
    simp[go_sem,e25,e27,wF2]
    refine hK15 _ _ ?_
    try clear hK15 K15
    refine qg (fun K16 hK16=>?_)
    refine qp kz ?_
    refine qH 2 (fun K17 hK17=>?_)
    simp[go_sem,wF2,wF3]
    refine ⟨_,cw,?_⟩
    rintro _ H3 hn3 ⟨w2,rfl,hW2,hS3⟩
    have hW3:=hW.keep hS3 (fun z hz=>hz)
    have cl2:=qk8 hW2
    have cl1:=qk8 hW3
    refine hK17 _ _ ?_
    clear hK17 K17
    simp[go_sem,wF2,wF3]
    refine hK16 _ _ ?_
    try clear hK16 K16
    refine qg (fun K18 hK18=>?_)
    refine qi kz ?_
    refine qI 2 (fun K19 hK19=>?_)
    simp[go_sem,e9]
    refine ⟨_,_,cl2,?_⟩
    refine hK19 _ _ ?_
    clear hK19 K19
    refine qI 2 (fun K20 hK20=>?_)
    simp[go_sem,e9]
    refine ⟨_,_,cl1,?_⟩
    refine hK20 _ _ ?_
    clear hK20 K20
    simp[go_sem,e9]
    refine hK18 _ _ ?_
    try clear hK18 K18
    refine qj (b:=decide (bs2.length<bs.length)) gz (fun hb=>?_) (fun hb=>?_)
    ·skip
     simp only[decide_eq_true_eq] at hb
     refine qo (fun K21 hK21=>?_)
     refine qi kz ?_
     simp[go_sem]
     refine hK21 _ _ ?_
     refine ⟨⟨by simp[go_sem,e25],by simp[go_sem,e26],by simp[go_sem,e27]⟩,?_⟩
     first
      | exact ⟨w2,bs2,by rw[hres,if_pos hb],gz,⟨hS3.get gb (Heap.lt_of_get gb),hS3.get gl (Heap.lt_of_get gl),hS3.get gt (Heap.lt_of_get gt)⟩,hW2.mono hm,hS.trans (hS3.mono hm)⟩
      | exact ⟨w,bs,by rw[hres,if_neg hb],by simp[go_sem,e9],⟨hS3.get gb (Heap.lt_of_get gb),hS3.get gl (Heap.lt_of_get gl),hS3.get gt (Heap.lt_of_get gt)⟩,hW3,hS.trans (hS3.mono hm)⟩
    ·skip
     simp only[decide_eq_false_iff_not] at hb
     refine ql ?_
     refine ⟨⟨by simp[go_sem,e25],by simp[go_sem,e26],by simp[go_sem,e27]⟩,?_⟩
     first
      | exact ⟨w2,bs2,by rw[hres,if_pos hb],gz,⟨hS3.get gb (Heap.lt_of_get gb),hS3.get gl (Heap.lt_of_get gl),hS3.get gt (Heap.lt_of_get gt)⟩,hW2.mono hm,hS.trans (hS3.mono hm)⟩
      | exact ⟨w,bs,by rw[hres,if_neg hb],by simp[go_sem,e9],⟨hS3.get gb (Heap.lt_of_get gb),hS3.get gl (Heap.lt_of_get gl),hS3.get gt (Heap.lt_of_get gt)⟩,hW3,hS.trans (hS3.mono hm)⟩
   ·skip
    have hres:(if 1+1=0 then storedBits b else if 1+1=1 then wayA b l else wayB b l)=if (ownBits l).length<bs.length then ownBits l else bs:=by rw[hbs]; rfl
    have cw:=way3_p (bb:=bb) hlf oz gl gt
    obtain ⟨bs2,hbs2⟩ : ∃ z,ownBits l=z:=⟨_,rfl⟩
    rw[hbs2] at hres cw
    refine qi kz ?_
    simp[go_sem,e25,e27,wF2,wF3]
    refine hK15 _ _ ?_
    try clear hK15 K15
    refine qg (fun K22 hK22=>?_)
    refine qp kz ?_
    refine qH 2 (fun K23 hK23=>?_)
    simp[go_sem,wF2,wF3]
    refine ⟨_,cw,?_⟩
    rintro _ H3 hn3 ⟨w2,rfl,hW2,hS3⟩
    have hW3:=hW.keep hS3 (fun z hz=>hz)
    have cl2:=qk8 hW2
    have cl1:=qk8 hW3
    refine hK23 _ _ ?_
    clear hK23 K23
    simp[go_sem,wF2,wF3]
    refine hK22 _ _ ?_
    try clear hK22 K22
    refine qg (fun K24 hK24=>?_)
    refine qi kz ?_
    refine qI 2 (fun K25 hK25=>?_)
    simp[go_sem,e9]
    refine ⟨_,_,cl2,?_⟩
    refine hK25 _ _ ?_
    clear hK25 K25
    refine qI 2 (fun K26 hK26=>?_)
    simp[go_sem,e9]
    refine ⟨_,_,cl1,?_⟩
    refine hK26 _ _ ?_
    clear hK26 K26
    simp[go_sem,e9]
    refine hK24 _ _ ?_
    try clear hK24 K24
    refine qj (b:=decide (bs2.length<bs.length)) gz (fun hb=>?_) (fun hb=>?_)
    ·skip
     simp only[decide_eq_true_eq] at hb
     refine qo (fun K27 hK27=>?_)
     refine qi kz ?_
     simp[go_sem]
     refine hK27 _ _ ?_
     refine ⟨⟨by simp[go_sem,e25],by simp[go_sem,e26],by simp[go_sem,e27]⟩,?_⟩
     first
      | exact ⟨w2,bs2,by rw[hres,if_pos hb],gz,⟨hS3.get gb (Heap.lt_of_get gb),hS3.get gl (Heap.lt_of_get gl),hS3.get gt (Heap.lt_of_get gt)⟩,hW2.mono hm,hS.trans (hS3.mono hm)⟩
      | exact ⟨w,bs,by rw[hres,if_neg hb],by simp[go_sem,e9],⟨hS3.get gb (Heap.lt_of_get gb),hS3.get gl (Heap.lt_of_get gl),hS3.get gt (Heap.lt_of_get gt)⟩,hW3,hS.trans (hS3.mono hm)⟩
    ·skip
     simp only[decide_eq_false_iff_not] at hb
     refine ql ?_
     refine ⟨⟨by simp[go_sem,e25],by simp[go_sem,e26],by simp[go_sem,e27]⟩,?_⟩
     first
      | exact ⟨w2,bs2,by rw[hres,if_pos hb],gz,⟨hS3.get gb (Heap.lt_of_get gb),hS3.get gl (Heap.lt_of_get gl),hS3.get gt (Heap.lt_of_get gt)⟩,hW2.mono hm,hS.trans (hS3.mono hm)⟩
      | exact ⟨w,bs,by rw[hres,if_neg hb],by simp[go_sem,e9],⟨hS3.get gb (Heap.lt_of_get gb),hS3.get gl (Heap.lt_of_get gl),hS3.get gt (Heap.lt_of_get gt)⟩,hW3,hS.trans (hS3.mono hm)⟩
  clear e9 e25 e26 e27 gb gl gt hW hS
  rintro env H2 ⟨⟨e25,e26,e27⟩,w9,bs9,hbs9,e99,⟨gb,gl,gt⟩,hW9,hS9⟩
  refine qo (fun K28 hK28=>?_)
  refine qi kz ?_
  simp[go_sem,e27]
  refine hK28 _ _ ?_
  have hw1:=qF i oz
  exact ⟨2-(i+1),oz,i+1,w9,bs9,rfl,oz,hbs9,e99,by simp[go_sem,e25],by simp[go_sem,e26],by simp[go_sem,hw1],gb,gl,gt,hW9,hS9⟩
 ·skip
  simp only[decide_eq_false_iff_not] at hb
  obtain rfl:i=2:=oz
  refine qy ?_
  refine hK10 _ _ ?_
  try clear hK10 K10
  refine qg (fun K29 hK29=>?_)
  refine qi kz ?_
  simp[go_sem,e9]
  refine hK29 _ _ ?_
  try clear hK29 K29
  refine qx ?_
  simp only[go_sem]
  refine hR _ _ ?_
  have hf:bs=wayB b l:=hbs
  rw[hf] at hW
  refine hS.retP (r:=.ptr w 0) gz ⟨w,rfl,hW,hS⟩ ?_
  obtain ⟨y,_,g,_⟩:=hW
  have:=Heap.lt_of_get g
  simp[go_sem,this]
end Go.Proofs.YtfokgjhdndnnhaaGreatDoor
end W31S
