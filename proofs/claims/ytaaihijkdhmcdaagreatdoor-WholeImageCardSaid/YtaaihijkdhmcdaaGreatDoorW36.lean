/- WholeImage, part 37 of 38: contracts and lemmas of its proof. Conditions: none. -/
import Derived.Test.YtaaihijkdhmcdaaGreatDoorW35
import Derived.Test.YtaaihijkdhmcdaaGreatDoorW10
import Derived.Test.YtaaihijkdhmcdaaGreatDoorW08
import Derived.Deep.Slices
import Derived.Deep.Fields
import Derived.ChangeSame
set_option linter.unusedVariables false
set_option linter.unusedSimpArgs false
set_option maxRecDepth 100000
namespace Go.Proofs.YtaaihijkdhmcdaaGreatDoor
section
open Go Go.RowKit
open TR
section
variable {A:EA} {w w' w0:World} {m n top many bnd:Nat} {V V':PV} {G G' F F':Nat→Prop} {o:Option Tr} {ch:ChF} {slot:BitVec 64} {p:Nat}
set_option maxHeartbeats 4000000
theorem EgR.lt (h:EgR A w m V G o ch slot n top many bnd):∀ k,EF A G k→k<w.heap.size:=by
 obtain ⟨C,h1⟩:=h.eg;exact h1.lt
theorem EgR.beside (h:EgR A w m V G o ch slot n top many bnd)(hm:Mod F w w')(h1:∀ k,EF A G k→¬ F k)(h2:¬ F A.x)(h4:¬ F A.tt)(h7:¬ F 1):EgR A w' m V G o ch slot n top many bnd:=by
 obtain ⟨C,hC⟩:=h.eg;exact ⟨⟨C,hC.mod hm (fun k hk hG=>h1 k (.inl hG) hk) h2 (h1 _ (.inr (.inl rfl))) h4 (h1 _ (.inr (.inr (.inl rfl)))) (h1 _ (.inr (.inr (.inr rfl)))) h7⟩,h.sto,h.w64,h.top,h.bnd⟩
theorem seen_first {I:List TR.Item}{k:List Nb}{place:BitVec 64}{r:LinkV}{off:Nat}(h:I=[(k,place)])(hc:ch place=([r],[off]))(h1:r.stamp=slot)(h2:r.gone=false):seenL ch slot I=[(keyS k,r.text)]:=by
 subst h;unfold seenL;rw [List.flatMap_cons,List.flatMap_nil,List.append_nil];have hs:seeP [r] slot=(r.text,true):=by
  rw [see_more,if_neg (by rw [h1];omega),h2];rfl
 unfold seeE;show (if (seeP (ch place).1 slot).2=true then [(keyS k,(seeP (ch place).1 slot).1)] else [])=_;rw [hc];show (if (seeP [r] slot).2=true then [(keyS k,(seeP [r] slot).1)] else [])=_;rw [hs];rfl
theorem works_calls (w0:World)(hF:Fours w0)(hT:Tabs w0):Ret Tryz.prog 4 #[] w0 fun v w'=>v=.bool true∧Below w0.heap.size w0 w':=by
 have bel0:=Below.refl w0.heap.size w0;obtain ⟨L,hL⟩:∃ L:Int,L=100:=⟨_,rfl⟩;obtain ⟨y0,hy0⟩:∃ y0:WrV,y0=⟨⟨#[97]⟩,⟨#[120]⟩,false⟩:=⟨_,rfl⟩;have hy:y0.right:=by rw [hy0];exact ⟨by decide,by decide,fun h=>by cases h⟩
 have hbs:=beg_small (m:=6) (.inl rfl);refine ret_of (args:=[]) _ Tryz.func4 rfl Tryz.ntmps4 (by simp) ?_;simp -implicitDefEqProofs [go_sem];rw [← hL];refine callE_of (begun_calls 6 (.inl rfl) (fun _=>([],[])) L (by rw [hL];rfl) w0 hF hT) ?_;rintro v w1 ⟨A,G,rfl,hR1,hE1,b1⟩;have bel1:=b1;simp -implicitDefEqProofs [go_sem];have hB2:=Blk.new w1 y0.cs 48;have b2:=(Below.refl w1.heap.size w1).alloc (Nat.le_refl _) (.cells y0.cs 48)
 have ey:y0.cs=#[.string ⟨#[97]⟩,.string ⟨#[120]⟩,.bool false]:=by rw [hy0];rfl
 rw [ey] at b2 hB2;generalize World.alloc w1 _=w2 at *;have hR2:=hR1.next b2
 have hin2:RIn w2 3 (some ⟨w1.heap.size,0,none⟩) ([y0].map WrV.cs) 1:=⟨wr_size _,.inr ⟨_,_,rfl,fun i hi k hk=>by
  have hi0:i=0:=by simp at hi;omega
  subst hi0;have h1:=hB2.cell k;rw [← ey] at h1;rw [Nat.zero_mul,Nat.zero_add];rw [h1]
  simp⟩,by simp,by decide,fun h=>by cases h⟩
 have hlt1:=hR1.lt;have hput:=eput_calls w2 hR2 (.inl rfl) (by omega) (by decide) (by omega) (by show (begD 6).steps+6000000<_;omega) hin2 (by simp) (fun _ y hy=>by
  obtain rfl:=Option.some.inj hy;exact ⟨hB2.lt,fun hE=>by have h5:=hlt1 _ hE;have h6:w1.heap.size<w1.heap.size:=h5;omega⟩)
 refine callE_of hput ?_;rintro v w3 ⟨aD,nD,cD,e,on,V3,G3,o3,ch3,slot3,n3,top3,rfl,hR3,t3,hs3,hsl3,hn3,hsp⟩;obtain ⟨rfl,rfl,rfl,place,off,r,hI3,hc3,hr1,hr2,hr3⟩:=hsp y0 rfl hy (by rw [hy0]) rfl (fun z=>bk_beg (.inl rfl) z);have hb2:=b2.size;have hb1:=b1.size;have bel3:Below w0.heap.size w0 w3:=(btr bel1 b2).trans (t3.mod.below (by omega) hE1);have hE3:=t3.ge (by omega) hE1;simp -implicitDefEqProofs [go_sem];refine callE_of (seen_calls w3 hR3 (.inl rfl) (by omega)) ?_
 rintro v w4 ⟨a4,c4,rfl,hr4,hn4,hR4,t4⟩;have bel4:Below w0.heap.size w0 w4:=bel3.trans (t4.mod.below bel3.size hE3);have hout:=seen_first hI3 hc3 hr1 hr2;have htx:y0.text=⟨#[120]⟩:=by rw [hy0]
 rw [hr3,htx] at hout;rw [hout] at hr4 ⊢;obtain ⟨ab,ao,rfl,hc4⟩:=hr4.get (i:=0) (by simp);have c1:=hc4 1 (by simp [prC]);simp [prC] at c1;simp -implicitDefEqProofs [go_sem,c1];refine callE_of (clean_calls w4 hR4 (.inl rfl)) ?_;rintro v w5 ⟨rfl,b5⟩;simp -implicitDefEqProofs [go_sem];refine body_tmp 0 rfl ?_;simp -implicitDefEqProofs [go_sem];exact btr bel4 b5
theorem rin_lt {a:Option Addr}{l:List WrV}{cap:Nat}(h:RIn w 3 a (l.map WrV.cs) cap)(hl:l.map WrV.cs≠[]):∀ y,a=some y→y.block<w.heap.size:=fun y hy=>by
 obtain ⟨b,off,ha,hc⟩:=h.get (i:=0) (List.length_pos_iff.2 hl);rw [ha] at hy;obtain rfl:=Option.some.inj hy;exact World.block_lt_of_cell? w _ (hc 0 (by rw [wr_size l _ (List.getElem_mem _)];decide))
theorem EgR.dev (h:EgR A w m V G o ch slot n top many bnd):∃ F,DevB w A.p F V.D∧∀ k,F k→G k:=by
 obtain ⟨C,hC⟩:=h.eg;obtain ⟨tb,tc,hb,hc,F,hP,hG⟩:=hC.sys.pd;exact ⟨F,hP.dev,fun k hk=>by rw [hG];exact .inl hk⟩
def WIv (A:EA)(m B:Nat)(w0:World)(k:Nat)(w':World):Prop :=
 ∃ (V:PV) (G:Nat→Prop) (o:Option Tr) (ch:ChF) (slot:BitVec 64) (n top many bnd:Nat),EgR A w' m V G o ch slot n top many bnd∧(∀ k,EF A G k→B≤k)∧Below B w0 w'∧V.D.steps≤100000+2000000*k∧slot.toNat≤k∧n≤16*k∧many≤k
theorem wholeImage_walk (a:Option Addr)(xs:List (Option Addr × Nat × List WrV))(cap:Nat)(w0:World)(hF:Fours w0)(hT:Tabs w0)(hin:WsIn w0 a xs cap) :
  Ret Tryz.prog 3 #[.slice a xs.length cap] w0 fun v w'=>v=.bool true∧Below w0.heap.size w0 w':=by
 have bel0:=Below.refl w0.heap.size w0;have hbs:=beg_small (m:=24) (.inr rfl);obtain ⟨L,hL⟩:∃ L:Int,L=400:=⟨_,rfl⟩;have hTl:=hT.lt;refine ret_of (args:=[_]) _ Tryz.func3 rfl Tryz.ntmps3 (by simp) ?_;simp -implicitDefEqProofs [go_sem];refine callE_of (works_calls w0 hF hT) ?_;rintro v w1 ⟨rfl,b1⟩;have hin1:=hin.next b1
 simp -implicitDefEqProofs [go_sem];refine callE_of (small_calls w1 hin1) ?_;rintro v w2 ⟨sm,rfl,hsm,b2⟩;have bel2:=btr b1 b2;have hin2:=hin1.next b2
 cases sm with
 | false =>
  simp -implicitDefEqProofs [go_sem];refine body_tmp 2 rfl ?_;simp -implicitDefEqProofs [go_sem];exact bel2
 | true =>
  obtain ⟨hx12,hx16⟩:=hsm rfl;simp -implicitDefEqProofs [go_sem];rw [← hL];refine callE_of (begun_calls 24 (.inr rfl) (fun _=>([],[])) L (by rw [hL];rfl) w2 (hF.next bel2) (hT.next bel2)) ?_;rintro v w3 ⟨A,G,rfl,hR3,hE3,b3⟩;have bel3:=btr bel2 b3;have hs2:=bel2.size;have hs3:=b3.size;simp -implicitDefEqProofs [go_sem]
  refine wpE_loop (fun e' w'=>∃ k:Nat,k≤xs.length∧e' 3=.pointer (some ⟨A.p,0,none⟩)∧e' 4=.pointer (some ⟨A.g,0,none⟩)∧e' 24=.slice a xs.length cap∧e' 25=.int .i64 (xs.length:Int)∧e' 26=.int .i64 (k:Int)∧WIv A 24 w2.heap.size w2 k w') (fun e' _=>xs.length-(intOf (e' 26)).toNat) ?_ ?_
  ·refine ⟨0,Nat.zero_le _,?_⟩;simp -implicitDefEqProofs [go_sem];exact ⟨_,G,none,_,0#64,0,0,0,0,hR3,hE3,b3,by show (begD 24).steps≤_;omega,Nat.zero_le _,Nat.zero_le _,Nat.zero_le _⟩
  ·rintro e' w4 ⟨k,hk,g3,g4,g24,g25,g26,V,G4,o,ch,slot,n,top,many,bnd,hR4,hE4,b4,hst,hsl,hn,hmn⟩;have hs4:=b4.size;by_cases hlt:k<xs.length
   ·have hlt':(k:Int)<(xs.length:Int):=by omega
    have i1:=IntWalk.i64_in ((k:Int)+1) (by omega);have hin4:=hin2.next b4
    obtain ⟨ib,io,rfl,hcell⟩:=hin4.at_.at_.cell (i:=k) (by simpa using hlt);rw [List.getElem_map] at hcell;have hmem:xs[k]∈xs:=List.getElem_mem hlt;have hr2:=hin2.in_ xs[k] hmem;have hput:=eput_calls w4 hR4 (.inr rfl) (by omega) (by omega) (by omega) (by omega) (hin4.in_ xs[k] hmem) (hx16 xs[k] hmem) (fun hne y hy=>⟨rin_lt (hin4.in_ xs[k] hmem) hne y hy,fun hE=>by have:=hE4 _ hE;have:=rin_lt hr2 hne y hy;omega⟩);simp -implicitDefEqProofs [go_sem,g3,g4,g24,g25,g26,hlt,hlt',hcell]
    refine callE_of hput ?_;rintro v w5 ⟨aD,nD,cD,e,on,V5,G5,o5,ch5,slot5,n5,top5,rfl,hR5,t5,hs5,hsl5,hn5,-⟩;simp -implicitDefEqProofs [go_sem,g3,g4,g24,g25,g26,i1];refine goE_round ⟨k+1,by omega,?_⟩ ?_
    ·simp -implicitDefEqProofs [go_sem,g3,g4,g24,g25,g26,i1];exact ⟨V5,G5,o5,ch5,slot5,n5,top5,_,_,hR5,t5.ge hs4 hE4,b4.trans (t5.mod.below hs4 hE4),by rw [Nat.mul_add_one,← Nat.add_assoc];exact Nat.le_trans hs5 (Nat.add_le_add_right hst _),by omega,by omega,by omega⟩
    ·simp -implicitDefEqProofs [go_sem,g26,intOf,i1];omega
   ·obtain rfl:k=xs.length:=by omega
    have bel4:Below w0.heap.size w0 w4:=btr bel2 b4;have hm24:(24=6∨24=24):=.inr rfl;have zf:=sz hm24;have hrest:=hR4.sto.own.rest;have hok:=hrest.well.ok;have hln:=hrest.well.lines;obtain ⟨F4,hD4,hFG4⟩:=hR4.dev;have hEl4:=hR4.lt;simp -implicitDefEqProofs [go_sem,g3,g4,g24,g25,g26];refine callE_of (imageB w4 hD4) ?_;rintro v w5 ⟨ai,ci,rfl,hi5,b5,hn5⟩;have hsz:=image_size hok;have hszD:V.D.size=V.D.image.length:=by unfold NM.Dv.size;rw [hsz]
    rw [hszD];simp -implicitDefEqProofs [go_sem,g3,g4];refine callE_of (of_calls ai V.D.image ci w5 hi5) ?_;rintro v w6 ⟨b6,⟨hnr,-⟩|⟨hri,p,Fh,rfl,hDh,hFh⟩⟩
    ·exact absurd (image_right hok (by omega)) hnr
    ·have b56:=btr b5 b6;have bel6:=btr bel4 b56;have hs6:=b6.size;have hs5:=b5.size;have hR6:=hR4.next b56
     simp -implicitDefEqProofs [go_sem,g3,g4];have hsi:=hR4.sto.image hm24;refine callE_of (egOpen_calls (V:={ V with D:=ofD V.D.image }) (o:=o) (ch:=ch) slot w6 hDh (hF.next bel6) (hT.next bel6) (fun hf=>by have:=hFh _ hf;have:=bel4.size;omega) hm24 hsi (by show (ofD V.D.image).word 64=slot;rw [image_word hok];exact hR4.w64) (by omega)) ?_;rintro v w7 ⟨H,GH,rfl,rfl,hRH,hEH,hFGH,hHx,hHt,b7⟩;have hR7:=hR6.next b7
     have hs7:=b7.size;have bel7:=btr bel6 b7;have hEHge:∀ k,EF H GH k→w4.heap.size≤k:=fun k hk=>by
      rcases hEH k hk with h1|h1
      ·have:=hFh k h1;omega
      ·omega
     simp -implicitDefEqProofs [go_sem,g3,g4];refine callE_of (seen_calls w7 hR7 hm24 (by omega)) ?_;rintro v w8 ⟨asl,csl,rfl,hrs,hns,hR8,t8⟩;have hs8:=t8.size;have hRH8:=hRH.beside t8.mod (fun k hk hE=>by have:=hEHge k hk;have:=hEl4 k hE;omega) (fun hE=>by have:=hEl4 _ hE;omega) (fun hE=>by have:=hEl4 _ hE;omega) (fun hE=>by have:=hE4 _ hE;omega);have bel8:=bel7.trans (t8.mod.below bel7.size fun k hk=>by have:=hE4 k hk;omega);have hElH:=hRH.lt;simp -implicitDefEqProofs [go_sem,g3,g4]
     refine callE_of (seen_calls w8 hRH8 hm24 (by omega)) ?_;rintro v w9 ⟨ah,chp,rfl,hrh,hnh,hRH9,t9⟩;have hs9:=t9.size;have hR9:=hR8.beside t9.mod (fun k hk hE=>by have:=hEHge k hE;have:=hEl4 k hk;omega) (fun hE=>by have:=hEHge _ hE;obtain ⟨C,hC⟩:=hR4.eg;have:=hC.xlt.1;omega) (fun hE=>by have:=hEHge _ hE;obtain ⟨C,hC⟩:=hR4.eg;have:=hC.xlt.2;omega) (fun hE=>by have:=hEHge _ hE;have:=bel4.size;omega)
     have bel9:=bel8.trans (t9.mod.below bel8.size fun k hk=>by have:=hEHge k hk;have:=bel4.size;omega);have hrs9:=hrs.mod t9.mod (fun k ⟨y,hy,hk⟩ hE=>by have:=hns y hy;have:=hElH k hE;omega);simp -implicitDefEqProofs [go_sem,g3,g4];refine callE_of (pairs_calls w9 hrs9 hrh) ?_;rintro v w10 ⟨rfl,b10⟩;have hR10:=hR9.next b10
     have hRH10:=hRH9.next b10
     obtain ⟨C10,hC10⟩:=hR10.eg;obtain ⟨CH10,hCH10⟩:=hRH10.eg;simp -implicitDefEqProofs [go_sem,g3,g4];refine callE_of (egSlot_calls w10 hC10) ?_;rintro v w11 ⟨rfl,rfl⟩;simp -implicitDefEqProofs [go_sem,g3,g4];refine callE_of (egSlot_calls w11 hCH10) ?_;rintro v w12 ⟨rfl,rfl⟩;simp -implicitDefEqProofs [go_sem,g3,g4];refine callE_of (clean_calls w12 hRH10 hm24) ?_;rintro v w13 ⟨rfl,b13⟩;simp -implicitDefEqProofs [go_sem,g3,g4]
     refine callE_of (egBlocks_calls w13 (hC10.next b13) hrest hm24) ?_;rintro v w14 ⟨a14,c14,rfl,hv14,b14⟩;simp -implicitDefEqProofs [go_sem,g3,g4];refine callE_of (egBlocks_calls w14 ((hCH10.next b13).next b14) hsi.own.rest hm24) ?_;rintro v w15 ⟨a15,c15,rfl,hv15,b15⟩;simp -implicitDefEqProofs [go_sem,g3,g4];refine body_tmp 2 rfl ?_;simp -implicitDefEqProofs [go_sem];exact bel9.trans ((b10.trans ((b13.trans ((btr b14 b15).mono b13.size)).mono b10.size)).mono bel9.size)
end
end
section
open Go
def tabZ:List Int:=[0,1,56,2,57,49,28,3,61,58,42,50,38,29,17,4,62,47,59,36,45,43,51,22,53,39,33,30,24,18,12,5,63,55,48,27,60,41,37,16,46,35,44,21,52,32,23,11,54,26,40,15,34,20,31,10,25,14,19,9,13,8,7,6]
theorem tabZ_all:∀ j,j<64→tabZ.getD j 0=uv (WM.tab.getD j 0#8):=by decide +kernel
theorem tabs_of {w:World}(h:∀ j,j<64→w.cell? ⟨1,j,none⟩=some (.int .u8 (tabZ.getD j 0))):Tabs w:=fun j hj=>by rw [h j hj,tabZ_all j hj]
end
section
open Go Go.RowKit Go.ChangeShapes Go.WideShapes Go.ChangeAt Go.Joins Go.Deep
instance : Inhabited WrV:=⟨⟨⟨#[]⟩,⟨#[]⟩,false⟩⟩
section
variable {P:Program} {H:Type} {enc:TypeId × Value→H} {w:World} {base:Nat} {spare:Nat→Bool} {held:Bool}
theorem wrCs_of {e:TypeId}{f0 f1 f2:Field}{n:Nat}{cs:List Value}{x:DataW H × List MemPlace}(he:P.underlying e=some (.struct #[f0,f1,f2]))(hone:oneCellFields P #[f0,f1,f2]=true)(hC:P.cellsOf e=3)
  (t0:P.underlying f0.type=some .string) (t1:P.underlying f1.type=some .string) (t2:P.underlying f2.type=some .bool)
  (h:DataW.trod enc P w base spare held n e cs=some x):∃ k:WrV,cs=k.cs.toList:=by
 obtain ⟨ys,m,_,_,hlen,_,hf⟩:=DataW.trod_struct he h;rw [hC] at hlen;obtain ⟨v0,v1,v2,rfl⟩:∃ v0 v1 v2,cs=[v0,v1,v2]:=by
  match cs,hlen with
  | [v0,v1,v2],_=>exact ⟨v0,v1,v2,rfl⟩
 have one:=fun j f hj=>hone_of hone j f hj
 have g0:=hf 0 f0 rfl;have g1:=hf 1 f1 rfl;have g2:=hf 2 f2 rfl;rw [(one 0 f0 rfl).1,(one 0 f0 rfl).2] at g0;rw [(one 1 f1 rfl).1,(one 1 f1 rfl).2] at g1;rw [(one 2 f2 rfl).1,(one 2 f2 rfl).2] at g2;have hys:∀ j,j<3→∃ y,ys[j]?=some y:=fun j hj=>⟨_,List.getElem?_eq_getElem (by simp at *;omega)⟩
 obtain ⟨y0,e0⟩:=hys 0 (by decide);obtain ⟨y1,e1⟩:=hys 1 (by decide);obtain ⟨y2,e2⟩:=hys 2 (by decide);rw [e0] at g0;rw [e1] at g1;rw [e2] at g2;have g0:DataW.trod enc P w base spare held m f0.type [v0]=some y0:=g0;have g1:DataW.trod enc P w base spare held m f1.type [v1]=some y1:=g1;have g2:DataW.trod enc P w base spare held m f2.type [v2]=some y2:=g2;obtain ⟨a0,i0,_,_⟩:=DataW.trod_string t0 g0;obtain ⟨a1,i1,_,_⟩:=DataW.trod_string t1 g1;obtain ⟨a2,i2,_⟩:=DataW.trod_bool t2 g2
 simp only [List.cons.injEq,and_true] at i0 i1 i2;subst i0;subst i1;subst i2;exact ⟨⟨a0,a1,a2⟩,rfl⟩
theorem wrs_of {t e:TypeId}{f0 f1 f2:Field}{a:Option Addr}{len cap:Nat}{d:DataW H}{p:List MemPlace}(ht:P.underlying t=some (.slice e))(he:P.underlying e=some (.struct #[f0,f1,f2]))(hone:oneCellFields P #[f0,f1,f2]=true)(hC:P.cellsOf e=3)
  (t0:P.underlying f0.type=some .string) (t1:P.underlying f1.type=some .string) (t2:P.underlying f2.type=some .bool)
  (h:DataW.Trod enc P w base spare held t (.slice a len cap) d p):∃ l:List WrV,l.length=len∧RIn w 3 a (l.map WrV.cs) cap:=by
 obtain ⟨fuel,hf⟩:=h
 rcases open_slice ht hf with ⟨hcs,_⟩|⟨y,len',cap',m,n,D,Pl,hcs,_,hl,hm,hmm,_,hi⟩
 ·simp [Value.cells] at hcs;obtain ⟨rfl,rfl,rfl⟩:=hcs;exact ⟨[],rfl,rin_nil (by decide) (fun _=>rfl)⟩
 ·simp [Value.cells] at hcs;obtain ⟨rfl,rfl,rfl⟩:=hcs;have hle:len≤m:=by rw [hmm];split<;>omega
  rw [hC] at hi;obtain ⟨V,hV⟩:=choose_lt (n:=m) (p:=fun i (A:WrV)=>∀ j (hj:j<A.cs.size),w.cell? ((y.add (i*3)).add j)=some A.cs[j]) (fun i him=>by
   obtain ⟨cs',hc,ht'⟩:=hi i him;obtain ⟨A,hA⟩:=wrCs_of he hone hC t0 t1 t2 ht';obtain ⟨_,hcl,hat⟩:=World.cells?_some hc;refine ⟨A,fun j hj=>?_⟩;have:=hat j hj;rw [this,hA]
   simp)
  refine ⟨(List.range len).map V,by simp,⟨wr_size _,?_,by simpa using hl,by unfold maxLen at hm;omega,fun h=>by cases h⟩⟩;by_cases h0:len=0
  ·left;subst h0;rfl
  ·have hy:y=⟨y.block,y.off,none⟩:=addr_at (v:=(V 0).cs[0]'(by rw [WrV.cs_size];omega)) (by
    have:=hV 0 (by omega) 0 (by rw [WrV.cs_size];omega);rw [Nat.zero_mul] at this;simpa [Addr.add] using this)
   refine .inr ⟨y.block,y.off,congrArg some hy,fun i hi j hj=>?_⟩;have hi':i<len:=by simpa using hi
   have hVi:(((List.range len).map V).map WrV.cs)[i]=(V i).cs:=by simp
   have h1:=hV i (by omega) j (by rw [hVi] at hj;exact hj);rw [hy,Addr.add_lit,Addr.add_lit] at h1;rw [h1]
   congr 1
   simp
theorem sets_of {t s e:TypeId}{f0 f1 f2:Field}{a:Option Addr}{len cap:Nat}{d:DataW H}{p:List MemPlace}(ht:P.underlying t=some (.slice s))(hs:P.underlying s=some (.slice e))(hcs:P.cellsOf s=1)(he:P.underlying e=some (.struct #[f0,f1,f2]))(hone:oneCellFields P #[f0,f1,f2]=true)(hC:P.cellsOf e=3)
  (t0:P.underlying f0.type=some .string) (t1:P.underlying f1.type=some .string) (t2:P.underlying f2.type=some .bool)
  (h:DataW.Trod enc P w base spare held t (.slice a len cap) d p):∃ xs:List (Option Addr × Nat × List WrV),xs.length=len∧WsIn w a xs cap:=by
 obtain ⟨fuel,hx⟩:=h
 rcases Deep.open_slice1 ht hcs hx with ⟨h1,h2⟩|⟨y,l,c,m,n,V,D,Pl,h1,_,hl,hm,hmm,h2,hcell⟩
 ·simp [Value.cells] at h1;obtain ⟨rfl,rfl,rfl⟩:=h1;exact ⟨[],rfl,⟨.inl rfl,Nat.le_refl _,by decide,fun _=>rfl⟩,fun x hx=>by cases hx⟩
 ·simp [Value.cells] at h1;obtain ⟨rfl,rfl,rfl⟩:=h1;have hlm:len≤m:=by split at hmm<;>omega
  have each:∀ i,i<len→∃ (ai:Option Addr) (ci:Nat) (li:List WrV),V i=.slice ai li.length ci∧RIn w 3 ai (li.map WrV.cs) ci:=by
   intro i hi;obtain ⟨_,hi2⟩:=hcell i (by omega)
   rcases DataW.trod_slice hs hi2 with ⟨h3,h4⟩|⟨a3,len3,cap3,elems,rest,n3,_,h3,h4,_,_,_,hlen3,_⟩
   ·have h3':V i=.slice none 0 0:=by simpa using h3
    exact ⟨none,0,[],h3',rin_nil (by decide) (fun _=>rfl)⟩
   ·have h3':V i=.slice (some a3) len3 cap3:=by simpa using h3
    have hT:DataW.Trod enc P w base spare held s (.slice (some a3) len3 cap3) (D i) (Pl i):=⟨n,by rw [← h3'];rw [h3'] at hi2 ⊢;exact hi2⟩;obtain ⟨li,hli,hin⟩:=wrs_of hs he hone hC t0 t1 t2 hT;exact ⟨some a3,cap3,li,by rw [h3',hli],hin⟩
  obtain ⟨A,hA⟩:=Deep.choose_lt (p:=fun i (x:Option Addr × Nat × List WrV)=>V i=.slice x.1 x.2.2.length x.2.1∧RIn w 3 x.1 (x.2.2.map WrV.cs) x.2.1) (fun i hi=>by
   obtain ⟨ai,ci,li,h5⟩:=each i hi;exact ⟨(ai,ci,li),h5⟩)
  refine ⟨(List.range len).map A,by simp,⟨?_,by simpa using hl,by unfold maxLen at hm;omega,fun h=>by cases h⟩,fun x hx=>?_⟩
  ·by_cases h0:len=0
   ·exact .inl (by simp [h0])
   ·have c0:=(hcell 0 (by omega)).1;have hy:y=⟨y.block,y.off,none⟩:=addr_at (v:=V 0) (by simpa [Addr.add] using c0);refine Or.inr ⟨y.block,y.off,congrArg some hy,fun i hi=>?_⟩;have hi':i<len:=by simpa using hi
    obtain ⟨h6,_⟩:=hA i hi';have h8:=(hcell i (by omega)).1;have h9:y.add i=⟨y.block,y.off+i,none⟩:=by
     unfold Addr.add;split
     ·rename_i hi0;subst hi0;exact hy
     ·rfl
    rw [h9,h6] at h8;simpa using h8
  ·obtain ⟨i,hi,rfl⟩:=List.mem_map.1 hx;exact (hA i (List.mem_range.1 hi)).2
end
end
end Go.Proofs.YtaaihijkdhmcdaaGreatDoor
