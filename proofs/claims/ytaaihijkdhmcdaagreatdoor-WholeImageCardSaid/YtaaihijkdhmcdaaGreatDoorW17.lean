/- WholeImage, part 18 of 38: contracts and lemmas of its proof. Conditions: none. -/
import Derived.Test.YtaaihijkdhmcdaaGreatDoorW13
import Derived.Test.YtaaihijkdhmcdaaGreatDoorW16
import Derived.Test.YtaaihijkdhmcdaaGreatDoorW14
import Derived.Test.YtaaihijkdhmcdaaGreatDoorW03
import Derived.Test.YtaaihijkdhmcdaaGreatDoorW15
set_option linter.unusedVariables false
set_option linter.unusedSimpArgs false
set_option maxRecDepth 100000
namespace Go.Proofs.YtaaihijkdhmcdaaGreatDoor
section
open Go Go.RowKit
def Bk (m:Nat)(V:PV)(y:Int):Int:=sizeF (shN m) m (bF V.T V.H) y
structure Rest (m:Nat) (V:PV):Prop where
 well:Well m V
 held:V.H=zL m
 hdr:∀ y,y%8=0→y<64→V.D.word y=(begD m).word y
theorem openH_of {m:Nat}(hm:m=6∨m=24){D:NM.Dv}(hl:D.ls.length=nL m)(hu:D.Up)(h:∀ y,y%8=0→y<64→D.word y=(begD m).word y):D.openH=(shN m,0):=by
 have zf:=sz hm;obtain ⟨_,f2,f3,_,f5,_⟩:=beg_facts hm;rw [← f2,NM.open_up (by rw [f5];omega) f3.down,NM.open_up (by rw [hl];omega) hu.down,hl,f5];have e:wordsAt D 0 8=wordsAt (begD m) 0 8:=by
  unfold wordsAt;refine List.map_congr_left fun i hi=>?_
  have:=List.mem_range.1 hi;exact h (0+8*i) (by omega) (by omega)
 rw [e]
section
variable {m:Nat} {V:PV} {D':NM.Dv}
theorem well_dev (h:Well m V)(hu:D'.Up)(hok:D'.Ok)(hl:D'.ls.length=nL m)(ht:∀ i,i<m→D'.word (128+8*i)=V.D.word (128+8*i)):Well m { V with D:=D' } :=
 ⟨h.len,h.lenH,h.pair,hu,hok,hl,fun i hi=>(ht i hi).trans (h.tab i hi)⟩
theorem Rest.dev (h:Rest m V)(hm:m=6∨m=24)(hu:D'.Up)(hok:D'.Ok)(hl:D'.ls.length=nL m)(hw:∀ x,x%8=0→x<dT m→(x<64∨128≤x)→D'.word x=V.D.word x):Rest m { V with D:=D' }:=by
 have zf:=sz hm;exact ⟨well_dev h.well hu hok hl fun i hi=>hw _ (by omega) (by omega) (.inr (by omega)),h.held,fun y hy hy2=>(hw y hy (by omega) (.inl hy2)).trans (h.hdr y hy hy2)⟩
theorem rest_beg (hm:m=6∨m=24):Rest m ⟨zL m,zL m,begD m⟩:=⟨well_zero hm,rfl,fun _ _ _=>rfl⟩
theorem linesI_0:linesI 0=0:=rfl
theorem linesI_c {c:Nat}(hc:c=1∨c=2):linesI (c:Int)=1∧c=1∨linesI (c:Int)=4∧c=2:=by
 rcases hc with rfl|rfl
 ·exact .inl ⟨rfl,rfl⟩
 ·exact .inr ⟨rfl,rfl⟩
theorem bk_at (hm:m=6∨m=24){y:Int}(h:0<Bk m V y):∃ (i q c L:Nat),i<m∧q<WM.bl c∧(c=1∧L=1∨c=2∧L=4)∧WM.tR (bF V.T V.H i) q=true∧WM.cR (bF V.T V.H i)=c∧Bk m V y=64*L∧y=((dT m+1024*i+64*L*q:Nat):Int)∧y=placeI (shN m) i c q∧64*L*q+64*L≤1024∧q<16:=by
 obtain ⟨i,q,hi,hq,ht,hy,hk⟩:=isB_sizeF h;obtain ⟨hc,hqb⟩:=tR_cls hq ht;obtain ⟨L,hL,hL0,-,hLb⟩:=lines_bl hc;have hin:=place_in hLb hqb;have hLc:WM.cR (bF V.T V.H i)=1∧L=1∨WM.cR (bF V.T V.H i)=2∧L=4:=by
  rcases linesI_c hc with ⟨h1,h2⟩|⟨h1,h2⟩
  ·left;exact ⟨h2,by omega⟩
  ·right;exact ⟨h2,by omega⟩
 refine ⟨i,q,_,L,hi,hqb,hLc,ht,rfl,?_,?_,hy,hin,hq⟩
 ·show sizeF _ _ _ _=_;rw [hk,hL]
 ·rw [hy,place_nat (shN m) i hL];show ((dT m:Nat):Int)+_=_;omega
theorem bk_in (hm:m=6∨m=24){y:Int}(h:0<Bk m V y):∃ n:Nat,y=n∧n%64=0∧dT m≤n∧(n:Int)+Bk m V y≤64*nL m∧(Bk m V y=64∨Bk m V y=256):=by
 have zf:=sz hm;obtain ⟨i,q,c,L,hi,hq,hc,-,-,hk,hy,-,hin,-⟩:=bk_at hm h;have e:64*L*q=64*(L*q):=Nat.mul_assoc _ _ _;refine ⟨_,hy,by omega,by omega,by omega,?_⟩
 rcases hc with ⟨_,rfl⟩|⟨_,rfl⟩
 ·left;omega
 ·right;omega
theorem bk_apart (hm:m=6∨m=24){y z:Int}(h:0<Bk m V y)(h2:0<Bk m V z)(hne:y≠z):y+Bk m V y≤z∨z+Bk m V z≤y:=by
 obtain ⟨i,q,c,L,hi,hq,hc,ht,hcr,hk,hy,-,hin,-⟩:=bk_at hm h;obtain ⟨i',q',c',L',hi',hq',hc',ht',hcr',hk',hz,-,hin',-⟩:=bk_at hm h2;by_cases e:i=i'
 ·subst e;have e2:c=c':=by omega
  have e3:L=L':=by omega
  subst e2;subst e3
  rcases Nat.lt_trichotomy q q' with hlt|rfl|hlt
  ·left;have:64*L*(q+1)≤64*L*q':=Nat.mul_le_mul (Nat.le_refl _) hlt;rw [Nat.mul_add] at this;omega
  ·exact absurd (hy.trans hz.symm) hne
  ·right;have:64*L*(q' + 1)≤64*L*q:=Nat.mul_le_mul (Nat.le_refl _) hlt;rw [Nat.mul_add] at this;omega
 ·rcases Nat.lt_or_ge i i' with hlt|hge
  ·left;omega
  ·right;omega
theorem bF_rest (h:Rest m V)(i:Nat):bF V.T V.H i=V.T.getD i 0#64:=by unfold bF;rw [h.held,zL_get,BitVec.or_zero]
theorem class_bk (h:Rest m V)(y:Int):Bk m V y=64*linesI (classV (shN m) V.T V.H y)∧(classV (shN m) V.T V.H y=0∨classV (shN m) V.T V.H y=1∨classV (shN m) V.T V.H y=2):=by
 unfold Bk sizeF classV;rw [h.well.len];cases hf:findP (shN m) m (bF V.T V.H) y with
 | none=>exact ⟨rfl,.inl rfl⟩
 | some x =>
  obtain ⟨i,q⟩:=x;obtain ⟨hi,hq,hx,-⟩:=findP_some hf;dsimp only;rw [bF_rest h,WM.has_ref _ _ hq];by_cases ht:WM.tR (V.T.getD i 0#64) q=true
  ·rw [if_pos ht,if_pos ht,WM.cR_class];refine ⟨rfl,?_⟩;have:=(tR_cls hq ht).1;omega
  ·rw [if_neg ht,if_neg ht];exact ⟨rfl,.inl rfl⟩
theorem class_1 (h:Rest m V){y:Int}:classV (shN m) V.T V.H y=1↔Bk m V y=64:=by
 obtain ⟨h1,h2⟩:=class_bk h y
 rcases h2 with e|e|e
 ·rw [e,linesI_0] at h1;omega
 ·rw [e] at h1 ⊢;rw [show linesI 1=1 from rfl] at h1;omega
 ·rw [e] at h1 ⊢;rw [show linesI 2=4 from rfl] at h1;omega
theorem placeN_at {i q c L:Nat}(hL:linesI (c:Int)=(L:Int)):placeN (shN m) i c q=dT m+1024*i+64*L*q:=by
 unfold placeN;rw [place_nat (shN m) i hL];show (((dT m:Nat):Int)+_).toNat=_;omega
theorem mem_allK {T:List (BitVec 64)}{s:HM.Shape}{i q:Nat}(hq:q<16)(ht:WM.tR (T.getD i 0#64) q=true):∀ {n:Nat},i<n→placeN s i (WM.classM (T.getD i 0#64)) q∈allK s T n
 | n+1,h=>by
  show _∈allK s T n++rowK s n (T.getD n 0#64);by_cases e:i=n
  ·subst e;refine List.mem_append_right _ ?_;unfold rowK;refine List.mem_map.2 ⟨q,?_,rfl⟩;rw [WM.list_ref,List.mem_filter,List.mem_range];exact ⟨hq,ht⟩
  ·exact List.mem_append_left _ (mem_allK hq ht (by omega))
theorem all_bk (h:Rest m V)(hm:m=6∨m=24)(y:Nat):y∈allK (shN m) V.T m↔0<Bk m V (y:Int):=by
 have hd:0≤(shN m).data:=by show (0:Int)≤((dT m:Nat):Int);omega
 constructor
 ·intro hy;obtain ⟨i,q,hi,hq,ht,rfl⟩:=mem_all hy;rw [← placeN_int _ hd,WM.cR_class];have:=sizeF_ne (s:=shN m) (n:=m) (B:=bF V.T V.H) hi hq (by rw [bF_rest h];exact ht);rw [bF_rest h] at this;exact this
 ·intro hy;obtain ⟨i,q,c,L,hi,hqb,hc,ht,hcr,-,-,hp,-,hq⟩:=bk_at hm hy;rw [bF_rest h] at ht hcr;have e:placeN (shN m) i (WM.classM (V.T.getD i 0#64)) q=y:=by
   unfold placeN;rw [WM.cR_class,hcr,← hp];rfl
  rw [← e];exact mem_allK hq ht hi
theorem row_rise (i:Nat)(x:BitVec 64):(rowK (shN m) i x).Pairwise (· < ·)∧∀ y∈rowK (shN m) i x,dT m+1024*i≤y∧y<dT m+1024*(i+1):=by
 have key:∀ q∈WM.listM x,∃ L:Nat,linesI (WM.classM x)=(L:Int)∧0<L∧64*L*q+64*L≤1024∧placeN (shN m) i (WM.classM x) q=dT m+1024*i+64*L*q:=fun q hq=>by
  rw [WM.list_ref,List.mem_filter,List.mem_range] at hq;obtain ⟨hc,hqb⟩:=tR_cls hq.1 hq.2;obtain ⟨L,hL,hL0,-,hLb⟩:=lines_bl hc;rw [WM.cR_class];exact ⟨L,hL,hL0,place_in hLb hqb,placeN_at hL⟩
 constructor
 ·unfold rowK;refine List.pairwise_map.2 ?_;have hs:(WM.listM x).Pairwise (· < ·):=by rw [WM.list_ref];exact List.Pairwise.filter _ List.pairwise_lt_range
  refine hs.imp_of_mem fun {a b} ha hb hab=>?_
  obtain ⟨L,hL,hL0,_,e1⟩:=key a ha;obtain ⟨L',hL',_,_,e2⟩:=key b hb;obtain rfl:L=L':=by omega
  rw [e1,e2];have:=Nat.mul_lt_mul_of_pos_left hab (show 0<64*L by omega);omega
 ·intro y hy;unfold rowK at hy;obtain ⟨q,hq,rfl⟩:=List.mem_map.1 hy;obtain ⟨L,hL,hL0,hin,e⟩:=key q hq;rw [e];omega
theorem all_rise (T:List (BitVec 64)):∀ k,(allK (shN m) T k).Pairwise (· < ·)∧∀ y∈allK (shN m) T k,dT m≤y∧y<dT m+1024*k
 | 0=>⟨List.Pairwise.nil,fun y h=>by cases h⟩
 | k+1=>by
  obtain ⟨i1,i2⟩:=all_rise T k;obtain ⟨r1,r2⟩:=row_rise (m:=m) k (T.getD k 0#64);refine ⟨List.pairwise_append.2 ⟨i1,r1,fun a ha b hb=>?_⟩,fun y hy=>?_⟩
  ·have:=(i2 a ha).2;have:=(r2 b hb).1;omega
  ·rcases List.mem_append.1 (show y∈allK (shN m) T k++rowK (shN m) k (T.getD k 0#64) from hy) with hy|hy
   ·have:=i2 y hy;omega
   ·have:=r2 y hy;omega
theorem drop_one:((List.range 16).all fun q=>[1,2].all fun c=>!decide (q<WM.bl c) || decide (WM.dropW (WM.takeW 0#64 (c:Nat) (q:Nat)) (q:Nat)=0#64))=true:=by decide +kernel
theorem drop_zero {c q:Nat}(hc:c=1∨c=2)(hq:q<WM.bl c):WM.dropW (WM.takeW 0#64 (c:Nat) (q:Nat)) (q:Nat)=0#64:=by
 have hq16:=Nat.lt_of_lt_of_le hq (WM.bl_le c);have h1:=List.all_eq_true.1 drop_one q (List.mem_range.2 hq16);have h2:=List.all_eq_true.1 h1 c (by rcases hc with rfl|rfl<;>simp);simpa [hq] using h2
theorem set_back (i:Nat)(x:BitVec 64):((zL m).set i x).set i 0#64=zL m:=by
 rw [List.set_set];refine List.ext_getElem (by simp) fun j h1 h2=>?_
 rw [List.getElem_set]
 split<;>simp [zL]
structure Hold (m:Nat) (V V1:PV) (off c:Nat):Prop where
 at_:∃ i q:Nat,i<m∧q<WM.bl c∧(off:Int)=placeI (shN m) i c q∧WM.takeOk (bF V.T V.H i) c q=true∧V1.H=V.H.set i (WM.takeW (V.H.getD i 0#64) c q)
 t:V1.T=V.T
 d:V1.D=V.D
 well:Well m V1
 cls:c=1∨c=2
theorem rest_reserve (h:Rest m V)(hm:m=6∨m=24){c:Nat}(hc:c=1∨c=2):reserveV (shN m) V c=(V,0,6)∨∃ (off:Nat) (V1:PV),reserveV (shN m) V c=(V1,(off:Int),0)∧Hold m V V1 off c∧Bk m V off=0∧Bk m V1 off=64*linesI c∧∀ y,y≠(off:Int)→Bk m V1 y=Bk m V y:=by
 rcases resV (s:=shN m) h.well hc with e|⟨i,q,hi,hq,hok,e⟩
 ·exact .inl e
 ·right;obtain ⟨r1,r2,r3,r4,r5,r6⟩:=resV_size (s:=shN m) h.well hc hi hq hok;obtain ⟨L,hL,-,-,-⟩:=lines_bl hc;have hp:placeI (shN m) i c q=((dT m+1024*i+64*L*q:Nat):Int):=by
   rw [place_nat (shN m) i hL];show ((dT m:Nat):Int)+_=_;omega
  refine ⟨dT m+1024*i+64*L*q,⟨V.T,V.H.set i (WM.takeW (V.H.getD i 0#64) c q),V.D⟩,by rw [e,hp],⟨⟨i,q,hi,hq,hp.symm,hok,rfl⟩,rfl,rfl,r1,hc⟩,?_,?_,fun y hy=>?_⟩
  ·rw [← hp];exact r4
  ·rw [← hp];exact r5
  ·exact r6 y (by rw [hp];exact hy)
theorem hold_take (h:Rest m V)(hm:m=6∨m=24){V1:PV}{off c:Nat}(hh:Hold m V V1 off c)(hu:D'.Up)(hok:D'.Ok)(hl:D'.ls.length=nL m)(hw:∀ x,x%8=0→x<dT m→D'.word x=V.D.word x) :
  ∃ V2,takeV (shN m) { V1 with D:=D' } off=(V2,0)∧Rest m V2∧(∀ y,Bk m V2 y=Bk m V1 y)∧(∀ x,x%8=0→x<64*nL m→(x<128∨dT m≤x)→V2.D.word x=D'.word x)∧V2.D.steps≤D'.steps+3:=by
 have zf:=sz hm;obtain ⟨⟨i,q,hi,hq,hp,hok1,hH⟩,hT,hD,hW,hc⟩:=hh;have hq16:q<16:=Nat.lt_of_lt_of_le hq (WM.bl_le c);obtain ⟨w1,w2,w3,-,-,-⟩:=resV_size (s:=shN m) h.well hc hi hq hok1;obtain ⟨T1,H1,D1⟩:=V1;dsimp only at hH hT hD hW ⊢;subst hT;subst hH;subst hD;have hW':Well m ⟨V.T,V.H.set i (WM.takeW (V.H.getD i 0#64) c q),D'⟩:=well_dev hW hu hok hl fun i hi=>hw _ (by omega) (by omega)
 have hf:=findP_place (s:=shN m) (B:=bF V.T (V.H.set i (WM.takeW (V.H.getD i 0#64) c q))) hi hc w3 hq;have hg:(V.H.set i (WM.takeW (V.H.getD i 0#64) c q)).getD i 0#64=WM.takeW (V.H.getD i 0#64) c q:=by rw [wordsSet h.well.lenH hi,if_pos rfl]
 have hs:D'.size=64*nL m:=by unfold NM.Dv.size;rw [hl]
 rcases takV (s:=shN m) hW' hm (off:Int) with h7|⟨i',q',hf',-,-,ht',-,D2,h7,hD2⟩
 ·exfalso;unfold takeV at h7;dsimp only at h7;rw [h.well.len,hp,hf] at h7;dsimp only at h7;rw [hg,WM.has_ref _ _ hq16,w2,if_pos rfl] at h7;split at h7
  ·cases congrArg Prod.snd h7
  ·rename_i hne;obtain ⟨u1,-⟩:=put_up hok hu (by rw [hl];omega) (o:=128+8*i) (by omega) (by omega) (WM.takeW (V.T.getD i 0#64) (WM.classM (WM.takeW (V.H.getD i 0#64) c q)) q);exact hne u1
 ·dsimp only at hf' ht' h7 hD2;rw [hp,hf] at hf';obtain ⟨rfl,rfl⟩:i=i'∧q=q':=by simpa using hf'
  rw [hg] at ht' h7 hD2;have hz:(V.H.set i (WM.takeW (V.H.getD i 0#64) c q)).set i (WM.dropW (WM.takeW (V.H.getD i 0#64) c q) q)=zL m:=by
   rw [h.held,zL_get,drop_zero hc hq,set_back]
  have hwt:=well_take (s:=shN m) hW' hm (off:Int);have hsz:=fun y=>takV_size (s:=shN m) hW' hi hq16 (by rw [hg];exact w2) y
  dsimp only at hsz;rw [hg] at hsz;rw [h7] at hwt;obtain ⟨u1,u2,u3,u4,u5,-⟩:=put_up hok hu (by rw [hl];omega) (o:=128+8*i) (by omega) (by omega) (WM.takeW (V.T.getD i 0#64) (WM.cR (WM.takeW (V.H.getD i 0#64) c q):Nat) q);have hst:=takeV_steps (shN m) ⟨V.T,V.H.set i (WM.takeW (V.H.getD i 0#64) c q),D'⟩ (off:Int);rw [h7] at hst;refine ⟨_,h7,⟨hwt.1,hz,fun y hy hy2=>?_⟩,fun y=>hsz y,fun x hx hx2 hx3=>?_,hst⟩
  ·show D2.word y=_;rw [hD2,u5 y hy (by omega),if_neg (by omega),hw y hy (by omega)];exact h.hdr y hy hy2
  ·show D2.word x=_;rw [hD2,u5 x hx (by omega),if_neg (by omega)]
theorem rest_drop (h:Rest m V)(hm:m=6∨m=24){off:Nat}(hb:0<Bk m V off) :
  ∃ V2,dropV (shN m) V off=(V2,0)∧Rest m V2∧Bk m V2 off=0∧(∀ y,y≠(off:Int)→Bk m V2 y=Bk m V y)∧(∀ x,x%8=0→x<64*nL m→(x<128∨dT m≤x)→V2.D.word x=V.D.word x)∧V2.D.steps≤V.D.steps+3:=by
 have zf:=sz hm;have hst:=dropV_steps (shN m) V (off:Int)
 rcases drpV_size (s:=shN m) h.well hm (off:Int) with ⟨_,h0⟩|⟨h1,h2,h3,h4⟩
 ·have:Bk m V off=0:=h0;omega
 ·have hwd:=(well_drop (s:=shN m) h.well hm (off:Int)).1;have hs:V.D.size=64*nL m:=by unfold NM.Dv.size;rw [h.well.lines]
  rcases drpV (s:=shN m) h.well hm (off:Int) with ⟨e,h0⟩|⟨i,q,hf,hi,hq,hx,⟨hH,he⟩|⟨hH,hT,he⟩⟩
  ·have:Bk m V off=0:=h0;omega
  ·rw [h.held,zL_get] at hH;rw [WM.tR0] at hH;cases hH
  ·obtain ⟨u1,u2,u3,u4,u5,-⟩:=put_up h.well.ok h.well.up (by rw [h.well.lines];omega) (o:=128+8*i) (by omega) (by omega) (WM.dropW (V.T.getD i 0#64) q);rw [he] at h1 h3 h4 hwd hst;refine ⟨_,he,⟨hwd,h.held,fun y hy hy2=>?_⟩,h3,h4,fun x hx hx2 hx3=>?_,hst⟩
   ·show (runS V.D _).1.word y=_;rw [u5 y hy (by omega),if_neg (by omega)];exact h.hdr y hy hy2
   ·show (runS V.D _).1.word x=_;rw [u5 x hx (by omega),if_neg (by omega)]
theorem rest_full (h:Rest m V)(hm:m=6∨m=24){c:Nat}(hc:c=1∨c=2)(hr:reserveV (shN m) V c=(V,0,6)):∀ i,i<m→V.T.getD i 0#64≠0#64:=fun i hi e=>by
 unfold reserveV at hr;rw [h.well.len] at hr;cases hp:pickP (bF V.T V.H) m c with
 | some j=>rw [hp] at hr;cases congrArg (fun x=>x.2.2) hr
 | none =>
  have h0:fnd (bF V.T V.H) c (clsL (bF V.T V.H) m 0)=none:=by
   cases e1:fnd (bF V.T V.H) c (clsL (bF V.T V.H) m c) with
   | some j=>rw [pickP_some e1] at hp;cases hp
   | none=>rw [pickP_none e1] at hp;exact hp
  have hB:bF V.T V.H i=0#64:=by rw [bF_rest h,e]
  unfold fnd at h0;rw [List.find?_eq_none] at h0;have hmem:i∈clsL (bF V.T V.H) m 0:=by
   unfold clsL;rw [List.mem_filter,List.mem_range,hB];exact ⟨hi,by decide⟩
  have:=h0 i hmem;rw [hB] at this
  rcases hc with rfl|rfl
  ·exact this (by decide)
  ·exact this (by decide)
theorem full_many (h:Rest m V)(hm:m=6∨m=24){c:Nat}(hc:c=1∨c=2)(hr:reserveV (shN m) V c=(V,0,6)){L:List Nat}(hL:∀ y:Nat,0<Bk m V y→y∈L):m≤L.length:=by
 have hf:=rest_full h hm hc hr;have hpos:∀ i,i<m→∃ y:Nat,y∈L∧dT m+1024*i≤y∧y<dT m+1024*(i+1):=fun i hi=>by
  have hb:=(h.well.pair i hi).rt;have hne:¬ WM.cnt (WM.tR (V.T.getD i 0#64)) 16=0:=fun e=>hf i hi ((zero_iff hb).2 e)
  have hl:=WM.list_len (V.T.getD i 0#64);obtain ⟨q,hq⟩:∃ q,q∈WM.listM (V.T.getD i 0#64):=by
   cases hll:WM.listM (V.T.getD i 0#64) with
   | nil=>rw [hll] at hl;exact absurd hl.symm hne
   | cons q l=>exact ⟨q,List.mem_cons_self⟩
  have hq2:=hq;rw [WM.list_ref,List.mem_filter,List.mem_range] at hq2;have h1:=(row_rise (m:=m) i (V.T.getD i 0#64)).2 _ (List.mem_map_of_mem (f:=placeN (shN m) i (WM.classM (V.T.getD i 0#64))) hq);exact ⟨_,hL _ ((all_bk h hm _).1 (mem_allK hq2.1 hq2.2 hi)),h1⟩
 have key:∀ (k:Nat) (L:List Nat),(∀ i,i<k→∃ y:Nat,y∈L∧dT m+1024*i≤y∧y<dT m+1024*(i+1))→k≤L.length:=by
  intro k
  induction k with
  | zero=>intro L _;exact Nat.zero_le _
  | succ k ih =>
   intro L hh;obtain ⟨y,hy,hy1,hy2⟩:=hh k (Nat.lt_succ_self _);have:=ih (L.erase y) fun i hi=>by
    obtain ⟨z,hz,hz1,hz2⟩:=hh i (by omega);exact ⟨z,(List.mem_erase_of_ne (by omega)).2 hz,hz1,hz2⟩
   rw [List.length_erase_of_mem hy] at this;have:=List.length_pos_of_mem hy;omega
 exact key m L hpos
end
end
section
open Go Go.RowKit
def cwK {n:Nat}(k:IntKind)(l:List (BitVec n)):Array Value:=(cellsK k l).toArray
theorem cwK_get {n:Nat}(k:IntKind)(l:List (BitVec n))(i:Nat)(h:i<l.length):(cwK k l)[i]?=some (.int k (uv l[i])):=by simp [cwK,cellsK,h]
theorem cwK_set {n:Nat}(k:IntKind)(l:List (BitVec n))(i:Nat)(x:BitVec n):(cwK k l).setIfInBounds i (.int k (uv x))=cwK k (l.set i x):=by simp [cwK,cellsK,List.map_set]
theorem cwK_size {n:Nat}(k:IntKind)(l:List (BitVec n)):(cwK k l).size=l.length:=by simp [cwK,cellsK]
theorem cwK_zero {n:Nat}(k:IntKind)(m:Nat):Array.replicate m (Value.int k 0)=cwK k (List.replicate m 0#n):=by
 apply Array.ext
 ·simp [cwK,cellsK]
 ·intro i h1 h2;simp [cwK,cellsK,uv]
theorem slIn_blk {n:Nat}{k:IntKind}{w:World}{b:Nat}{l:List (BitVec n)}{e:TypeId}(h:Blk w b (cwK k l) e)(hl:l.length≤9223372036854775807):SlIn k w (some ⟨b,0,none⟩) l l.length :=
 ⟨slAt_blk h fun i hi=>cwK_get k l i hi,Nat.le_refl _,hl,fun h=>by cases h⟩
def fillL {n:Nat}(l:List (BitVec n))(k:Nat):List (BitVec n):=l.take k++List.replicate (l.length-k) 0#n
theorem fillL_len {n:Nat}(l:List (BitVec n)){k:Nat}(hk:k≤l.length):(fillL l k).length=l.length:=by simp [fillL];omega
theorem fillL_zero {n:Nat}(l:List (BitVec n)):fillL l 0=List.replicate l.length 0#n:=by simp [fillL]
theorem fillL_all {n:Nat}(l:List (BitVec n)):fillL l l.length=l:=by simp [fillL]
theorem fillL_set {n:Nat}(l:List (BitVec n)){k:Nat}(hk:k<l.length):(fillL l k).set k l[k]=fillL l (k+1):=by
 unfold fillL;have e:l.length-k=(l.length-(k+1))+1:=by omega
 have hlen:(l.take k).length=k:=by rw [List.length_take];omega
 have e3:l.take (k+1)=l.take k++[l[k]]:=by rw [List.take_add_one,List.getElem?_eq_getElem hk];rfl
 rw [e,List.replicate_succ,List.set_append_right _ _ (by omega),hlen,Nat.sub_self,List.set_cons_zero,e3,List.append_assoc];rfl
namespace TR
def cmn:List Nb→List Nb→Nat
 | x::a,y::b=>if x=y then cmn a b+1 else 0
 | _,_=>0
theorem cmn_le:∀ a b:List Nb,cmn a b≤a.length∧cmn a b≤b.length
 | [],b=>by cases b<;>simp [cmn]
 | x::a,[]=>by simp [cmn]
 | x::a,y::b=>by
  have:=cmn_le a b;unfold cmn
  split<;>simp<;>omega
theorem cmn_lt:∀ {a b:List Nb} {k:Nat},k<cmn a b→a[k]?=b[k]?∧k<a.length∧k<b.length
 | [],b,k,h=>by cases b<;>simp [cmn] at h
 | x::a,[],k,h=>by simp [cmn] at h
 | x::a,y::b,k,h=>by
  unfold cmn at h;split at h
  ·rename_i e;cases k with
   | zero=>simp [e]
   | succ k =>
    have:=cmn_lt (show k<cmn a b by omega);simpa using this
  ·omega
theorem cmn_at:∀ (a b:List Nb),cmn a b<a.length→cmn a b<b.length→a[cmn a b]?≠b[cmn a b]?
 | [],b,h,_=>by simp at h
 | x::a,[],_,h=>by simp at h
 | x::a,y::b,h1,h2=>by
  by_cases e:x=y
  ·have e2:cmn (x::a) (y::b)=cmn a b+1:=by rw [cmn,if_pos e]
   rw [e2] at h1 h2 ⊢;simpa using cmn_at a b (by simpa using h1) (by simpa using h2)
  ·have e2:cmn (x::a) (y::b)=0:=by rw [cmn,if_neg e]
   rw [e2];simpa using e
def nib2 (x:Nb):List Nb:=[x/16#8,x%16#8]
def bytesL (s:ByteArray):List Nb:=s.data.toList.map UInt8.toBitVec
def nibs (s:ByteArray):List Nb:=(bytesL s).flatMap nib2
end TR
open TR
section
set_option maxHeartbeats 1000000
theorem nibRight_calls (a:Option Addr)(l:List Nb)(c:Nat)(w:World)(hin:SlIn .u8 w a l c)(h:∀ x∈l,x.toNat<16) :
  Ret Tryz.prog 198 #[.slice a l.length c] w fun v w'=>v=.bool true∧w'=w:=by
 have hmax:=hin.max;have hle:=hin.le;refine ret_of (args:=[_]) _ Tryz.func198 rfl Tryz.ntmps198 (by simp) ?_;simp -implicitDefEqProofs [go_sem];refine wpE_loop (fun e' w'=>w'=w∧∃ k:Nat,k≤l.length∧e' 5=.slice a l.length c∧e' 6=.int .i64 l.length∧e' 7=.int .i64 k) (fun e' _=>l.length-(intOf (e' 7)).toNat) ?_ ?_
 ·refine ⟨rfl,0,Nat.zero_le _,?_⟩;simp -implicitDefEqProofs [go_sem]
 ·rintro e' w' ⟨rfl,k,hk,h5,h6,h7⟩;by_cases hlt:k<l.length
  ·have hlt':(k:Int)<l.length:=by omega
   have hw:=IntWalk.i64_in ((k:Int)+1) (by omega);obtain ⟨b,o,rfl,g⟩:=hin.at_.cell hlt;have hx:=h l[k] (List.getElem_mem _);have hx':¬ (16#8≤l[k]):=by rw [BitVec.le_def];simp;omega
   simp -implicitDefEqProofs [go_sem,h5,h6,h7,hlt,hlt',g,hx',hw];refine goE_round ⟨rfl,k+1,by omega,?_⟩ ?_
   ·simp -implicitDefEqProofs [go_sem,h5,h6]
   ·simp -implicitDefEqProofs [go_sem,intOf,h7];omega
  ·have hn:¬ (k:Int)<l.length:=by omega
   simp -implicitDefEqProofs [go_sem,h5,h6,h7,hlt,hn];refine body_tmp 2 rfl ?_;simp -implicitDefEqProofs [go_sem]
theorem nibCommon_calls (a1 a2:Option Addr)(l1 l2:List Nb)(c1 c2:Nat)(w0:World)(h1:SlIn .u8 w0 a1 l1 c1)(h2:SlIn .u8 w0 a2 l2 c2) :
  Ret Tryz.prog 163 #[.slice a1 l1.length c1,.slice a2 l2.length c2] w0 fun v w'=>v=.int .i64 (cmn l1 l2:Int)∧Below w0.heap.size w0 w':=by
 have m1:=h1.max;have m2:=h1.le;have hcl:=cmn_le l1 l2;refine ret_of (args:=[_,_]) _ Tryz.func163 rfl Tryz.ntmps163 (by simp) ?_;simp -implicitDefEqProofs [go_sem];refine wpE_loop (fun e' w'=>∃ k:Nat,k≤cmn l1 l2∧e' 0=.slice a1 l1.length c1∧e' 1=.slice a2 l2.length c2∧e' 5=.int .i64 k∧Below w0.heap.size w0 w') (fun e' _=>l1.length-(intOf (e' 5)).toNat) ?_ ?_
 ·refine ⟨0,Nat.zero_le _,?_⟩;simp -implicitDefEqProofs [go_sem];exact Below.refl _ _
 ·rintro e' w1 ⟨k,hk,q0,q1,q5,b1⟩;have b2:=b1.drew;by_cases hlt1:k<l1.length
  ·have hlt1':(k:Int)<l1.length:=by omega
   by_cases hlt2:k<l2.length
   ·have hlt2':(k:Int)<l2.length:=by omega
    obtain ⟨g1,o1,rfl,d1⟩:=(h1.next b2).at_.cell hlt1;obtain ⟨g2,o2,rfl,d2⟩:=(h2.next b2).at_.cell hlt2;simp -implicitDefEqProofs [go_sem,q0,q1,q5];refine drawE_still mixed (by decide +kernel) ?_;generalize World.drew w1=w2 at *;by_cases heq:l1[k]=l2[k]
    ·have hkc:k<cmn l1 l2:=by
      rcases Nat.lt_or_ge k (cmn l1 l2) with h|h
      ·exact h
      ·have he:k=cmn l1 l2:=by omega
       have:=cmn_at l1 l2 (by omega) (by omega);rw [← he,List.getElem?_eq_getElem hlt1,List.getElem?_eq_getElem hlt2,heq] at this;exact absurd rfl this
     have heq':(l1[k]==l2[k])=true:=by rw [beq_iff_eq];exact heq
     have hw:=IntWalk.i64_in ((k:Int)+1) (by omega);simp -implicitDefEqProofs [go_sem,q0,q1,q5,hlt1,hlt1',hlt2,hlt2',d1,d2,heq'];unfold endE;simp -implicitDefEqProofs [go_sem,q0,q1,q5,hw];refine goE_round ⟨k+1,by omega,?_⟩ ?_
     ·simp -implicitDefEqProofs [go_sem,q0,q1];exact b2
     ·simp -implicitDefEqProofs [go_sem,intOf,q5];omega
    ·have hkc:k=cmn l1 l2:=by
      rcases Nat.lt_or_ge k (cmn l1 l2) with h|h
      ·have:=(cmn_lt h).1;rw [List.getElem?_eq_getElem hlt1,List.getElem?_eq_getElem hlt2] at this;exact absurd (Option.some.inj this) heq
      ·omega
     have heq':(l1[k]==l2[k])=false:=by rw [beq_eq_false_iff_ne];exact heq
     simp -implicitDefEqProofs [go_sem,q0,q1,q5,hlt1,hlt1',hlt2,hlt2',d1,d2,heq'];unfold endE;simp -implicitDefEqProofs [go_sem,q0,q1,q5];refine body_tmp 4 rfl ?_;simp -implicitDefEqProofs [go_sem,hkc];exact b2
   ·have hlt2':¬ (k:Int)<l2.length:=by omega
    simp -implicitDefEqProofs [go_sem,q0,q1,q5];refine drawE_still mixed (by decide +kernel) ?_;generalize World.drew w1=w2 at *;simp -implicitDefEqProofs [go_sem,q0,q1,q5,hlt1,hlt1',hlt2,hlt2'];unfold endE;simp -implicitDefEqProofs [go_sem,q0,q1,q5];refine body_tmp 4 rfl ?_;simp -implicitDefEqProofs [go_sem];exact ⟨by omega,b2⟩
  ·have hlt1':¬ (k:Int)<l1.length:=by omega
   simp -implicitDefEqProofs [go_sem,q0,q1,q5];refine drawE_still mixed (by decide +kernel) ?_;generalize World.drew w1=w2 at *;simp -implicitDefEqProofs [go_sem,q0,q1,q5,hlt1,hlt1'];unfold endE;simp -implicitDefEqProofs [go_sem,q0,q1,q5];refine body_tmp 4 rfl ?_;simp -implicitDefEqProofs [go_sem];exact ⟨by omega,b2⟩
theorem nibPack_calls (a:Option Addr)(l:List Nb)(c:Nat)(w:World)(hin:SlIn .u8 w a l c)(hl:l.length≤15)(h:∀ x∈l,x.toNat<16) :
  Ret Tryz.prog 203 #[.slice a l.length c] w fun v w'=>v=.tuple #[.int .u64 (uv (pack l)),.bool true]∧w'=w:=by
 have h15:¬ (15:Int)<l.length:=by omega
 refine ret_of (args:=[_]) _ Tryz.func203 rfl Tryz.ntmps203 (by simp) ?_;simp -implicitDefEqProofs [go_sem,h15];refine callE_of (nibRight_calls a l c w hin h) ?_;rintro v w1 ⟨rfl,rfl⟩;simp -implicitDefEqProofs [go_sem];have e0:BitVec.ofNat 64 l.length=packN l 0:=rfl;rw [e0];refine wpE_loop (fun e' w'=>w'=w1∧∃ k:Nat,k≤l.length∧e' 4=.int .u64 (uv (packN l k))∧e' 18=.slice a l.length c∧e' 19=.int .i64 l.length∧e' 20=.int .i64 k) (fun e' _=>l.length-(intOf (e' 20)).toNat) ?_ ?_
 ·refine ⟨rfl,0,Nat.zero_le _,?_⟩;simp -implicitDefEqProofs [go_sem]
 ·rintro e' w' ⟨rfl,k,hk,q4,q18,q19,q20⟩;by_cases hlt:k<l.length
  ·have hlt':(k:Int)<l.length:=by omega
   have hw:=IntWalk.i64_in ((k:Int)+1) (by omega);have hw2:=IntWalk.i64_in (4*(k:Int)) (by omega);have hw3:=IntWalk.i64_in (4+4*(k:Int)) (by omega);have i3:(4+4*(k:Int)).toNat=4+4*k:=by omega
   have i4:(0:Int)≤4+4*k:=by omega
   obtain ⟨b,o,rfl,g⟩:=hin.at_.cell hlt;have hgd:l.getD k 0#8=l[k]:=by simp [List.getD,hlt]
   have hst:packN l (k+1)=packN l k ||| (l[k].setWidth 64 <<< (4+4*k)):=by rw [packN,hgd]
   simp -implicitDefEqProofs [go_sem,q4,q18,q19,q20,hlt,hlt',g,hw,hw2,hw3,i3,i4];refine goE_round ⟨rfl,k+1,by omega,?_⟩ ?_
   ·rw [hst];simp -implicitDefEqProofs [go_sem,q18,q19]
   ·simp -implicitDefEqProofs [go_sem,intOf,q20];omega
  ·have hn:¬ (k:Int)<l.length:=by omega
   have hk':k=l.length:=by omega
   simp -implicitDefEqProofs [go_sem,q4,q18,q19,q20,hlt,hn];refine body_tmp2 2 3 rfl ?_;simp -implicitDefEqProofs [go_sem,hk',pack]
theorem nibUnpack_calls (l:List Nb)(w0:World)(hl:l.length≤15)(h:∀ x∈l,x.toNat<16) :
  Ret Tryz.prog 202 #[.int .u64 (uv (pack l))] w0 fun v w'=>∃ a c,v=.tuple #[.slice a l.length c,.bool true]∧SlIn .u8 w' a l c∧(∀ y,a=some y→w0.heap.size≤y.block∧y.block<w'.heap.size)∧Below w0.heap.size w0 w':=by
 have bel0:=Below.refl w0.heap.size w0;have e1:=pack_mod hl h;have e2:=pack_shift hl h;have e3:uv (BitVec.ofNat 64 l.length)=(l.length:Int):=by unfold uv;rw [BitVec.toNat_ofNat,Nat.mod_eq_of_lt (by omega)]
 have i1:=IntWalk.i64_in (l.length:Int) (by omega);have mk:=run_make_n (P:=Tryz.prog) (t:=36) (e:=5) (z:=.int .u8 0) (bytes:=1) (by kernel_rfl) (by kernel_rfl) rfl .i64 .i64 l.length (by omega) (by omega) w0;refine ret_of (args:=[_]) _ Tryz.func202 rfl Tryz.ntmps202 (by simp) ?_;simp -implicitDefEqProofs [go_sem,e1,e2,e3,i1,mk];generalize hw1:World.alloc w0 _=w1 at *;obtain ⟨hB1,b1,sz1,bel1⟩:=newF hw1 bel0;rw [cwK_zero (n:=8),← fillL_zero] at hB1
 refine wpE_loop (fun e' w'=>∃ k:Nat,k≤l.length∧e' 0=.int .u64 (uv (rest l k))∧e' 5=.slice (some ⟨w0.heap.size,0,none⟩) l.length l.length∧e' 15=.int .i64 l.length∧e' 16=.int .i64 k∧Blk w' w0.heap.size (cwK .u8 (fillL l k)) 5∧Below w0.heap.size w0 w') (fun e' _=>l.length-(intOf (e' 16)).toNat) ?_ ?_
 ·refine ⟨0,Nat.zero_le _,?_⟩;simp -implicitDefEqProofs [go_sem];exact ⟨hB1,bel1⟩
 ·rintro e' w2 ⟨k,hk,q0,q5,q15,q16,hB,bel2⟩;by_cases hlt:k<l.length
  ·have hlt':(k:Int)<l.length:=by omega
   have hw:=IntWalk.i64_in ((k:Int)+1) (by omega);have f1:=rest_mod hl h hlt;have f2:=rest_shift hl h hlt;have gx:=(hB.cell k).trans (cwK_get .u8 (fillL l k) k (by rw [fillL_len l hk];exact hlt));have gf:=hB.thaw k;have hset:=fillL_set l hlt;simp -implicitDefEqProofs [go_sem,q0,q5,q15,q16,hlt,hlt',f1,f2,gx,gf,hw];refine goE_round ⟨k+1,by omega,?_⟩ ?_
   ·simp -implicitDefEqProofs [go_sem,q5,q15];rw [← hset,← cwK_set];exact ⟨hB.set _ _,bel2.setCell (Nat.le_refl _) _⟩
   ·simp -implicitDefEqProofs [go_sem,intOf,q16,hw];omega
  ·have hn:¬ (k:Int)<l.length:=by omega
   have hk':k=l.length:=by omega
   subst hk';rw [rest_end] at q0;rw [fillL_all] at hB;simp -implicitDefEqProofs [go_sem,q0,q5,q15,q16,hn];refine body_tmp2 2 3 rfl ?_;simp -implicitDefEqProofs [go_sem];refine ⟨_,_,⟨rfl,rfl⟩,slIn_blk hB (by omega),fun y hy=>?_,bel2⟩;obtain rfl:=Option.some.inj hy;exact ⟨Nat.le_refl _,hB.lt⟩
end
end
section
open Go Go.RowKit
def EInfo (P:Program)(e:TypeId)(size bytes:Nat):Prop:=(P.info? e).map (fun i=>(i.zero.map (fun z=>z.cells.size),i.size,i.bytes))=some (some size,size,bytes)
theorem EInfo.get {P:Program}{e:TypeId}{size bytes:Nat}(h:EInfo P e size bytes):∃ i z,P.info? e=some i∧i.zero=some z∧i.size=size∧i.bytes=bytes∧z.cells.size=size:=by
 obtain ⟨i,hi,h2⟩:=Option.map_eq_some_iff.1 h;simp only [Prod.mk.injEq] at h2;obtain ⟨z,hz,h3⟩:=Option.map_eq_some_iff.1 h2.1;exact ⟨i,z,hi,hz,h2.2.1,h2.2.2,h3⟩
def BlkOf (a:Option Addr)(k:Nat):Prop:=∃ y,a=some y∧y.block=k
section
variable {P:Program} {w w':World} {base size n cap:Nat} {e:TypeId} {a:Option Addr} {xs:List Value} {F:Nat→Prop}
theorem ownsRow_turn (h:w.ownsRow base e size (.slice a n cap) n xs)(hm:Mod F w w')(hF:∀ k,BlkOf a k→¬ F k):w'.ownsRow base e size (.slice a n cap) n xs:=by
 refine ⟨h.1,?_⟩
 rcases h.2 with h1|⟨g,cap2,cur,hv,hg,hblk,rest⟩
 ·exact .inl h1
 ·refine .inr ⟨g,cap2,cur,hv,hg,?_,rest⟩;simp only [Value.slice.injEq] at hv;have hblk:Blk w g cur e:=hblk;exact hblk.mod hm (hF g ⟨_,hv.1,rfl⟩)
theorem ownsRow_blk (h:w.ownsRow base e size (.slice a n cap) n xs):∀ k,BlkOf a k→base≤k∧k<w.heap.size:=by
 rintro k ⟨y,rfl,rfl⟩;obtain ⟨_,⟨hv,h0⟩|⟨g,cap2,cur,hv,hg,hblk,_⟩⟩:=h
 ·simp only [Value.slice.injEq] at hv;cases hv.1
 ·simp only [Value.slice.injEq] at hv;have hblk:Blk w g cur e:=hblk;rw [Option.some.inj hv.1];exact ⟨hg,hblk.lt⟩
theorem push_own {t ty:TypeId}{bytes:Nat}{cs:Array Value}(ht:P.underlying t=some (.slice e))(hI:EInfo P e size bytes)(hsz:0<size)(hcs:cs.size=size)(h1:∀ v∈cs.toList,v.oneCell'=true)(hby:bytes≤1000)(hn:n≤1000000)(hbase:base≤w.heap.size)
  (hown:w.ownsRow base e size (.slice a n cap) n xs) :
  ∃ g c2 w2,(appendB #[t,t] ty #[.slice a n cap,.slice (some ⟨w.heap.size,0,none⟩) 1 1]).run P (w.alloc (.cells cs e))=.ok (.slice (some ⟨g,0,none⟩) (n+1) c2) w2 ∧
   w2.ownsRow base e size (.slice (some ⟨g,0,none⟩) (n+1) c2) (n+1) (xs++cs.toList)∧base≤g∧g<w2.heap.size∧w.heap.size<w2.heap.size∧Turn w (BlkOf a) w2 (fun k=>k=g):=by
 have ha:(w.alloc (.cells cs e)).heap.size=w.heap.size+1:=by simp
 obtain ⟨ti,tz,hti,htz,hts,htb,htc⟩:=hI.get;have hbb:(n+1)*bytes≤140737488355328:=by
  have:=Nat.mul_le_mul (show n+1≤1000001 by omega) hby;omega
 obtain ⟨g,c2,w2,hr,hown2,hgr,hwhere⟩:=run_append_where (P:=P) (w:=w.alloc (.cells cs e)) base (t:=t) (ty:=ty) ht hti htz hts htb htc hsz (hown.alloc (.cells cs e)) (m:=1) (c:=1)
  ⟨w.heap.size,0,none⟩ (news:=cs.toList) (by rw [Array.length_toList,hcs,Nat.one_mul]) (fun j u hu=>by rw [Addr.add_lit,Nat.zero_add,(Blk.new w cs e).cell];rwa [Array.getElem?_toList] at hu) h1 (by decide) hbb (by omega) (by omega)
 have hs:=hgr.size;rw [ha] at hs;have hob:∀ k,Value.ownBlock (.slice a n cap)=some k→BlkOf a k:=fun k hk=>by
  cases a with
  | none=>simp [Value.ownBlock] at hk
  | some y=>simp [Value.ownBlock] at hk;exact ⟨y,rfl,hk⟩
 have hg:=ownsRow_blk hown2 g ⟨_,rfl,rfl⟩;refine ⟨g,c2,w2,hr,hown2,hg.1,hg.2,by omega,⟨?_,fun k hk=>?_⟩⟩
 ·exact (((Mod.refl (BlkOf a) w).alloc _).trans (mod_of_grown hgr) (fun k hk _=>hob k hk))
 ·subst hk
  rcases hwhere with h|h
  ·exact .inl (hob _ h)
  ·exact .inr (by omega)
end
theorem eI_u8:EInfo Tryz.prog 5 1 1:=by unfold EInfo;kernel_rfl
theorem eI_u64:EInfo Tryz.prog 42 1 8:=by unfold EInfo;kernel_rfl
theorem eI_int:EInfo Tryz.prog 3 1 8:=by unfold EInfo;kernel_rfl
end
end Go.Proofs.YtaaihijkdhmcdaaGreatDoor
