/- WholeImage, part 29 of 41: contracts and lemmas of its proof. Conditions: none. -/
import Derived.Test.YtaaihijkdhmcdaaGreatDoorW27
import Derived.Test.YtaaihijkdhmcdaaGreatDoorW01
import Derived.Test.YtaaihijkdhmcdaaGreatDoorW18
import Derived.Maps.OwnSet
import Derived.Maps.Views
import Derived.Maps.RangeWalk
import Derived.Carry
set_option linter.unusedVariables false
set_option linter.unusedSimpArgs false
set_option maxRecDepth 100000
namespace Go.Proofs.YtaaihijkdhmcdaaGreatDoor
section
open Go Go.RowKit
open TR
section
variable {w w':World} {m b p j x base cap:Nat} {V V':PV} {G G' F F':Nat→Prop} {made:List Nat} {a:Option Addr}
set_option maxHeartbeats 4000000
theorem js_end2 {w0 w1:World}(h:JS w' m V b p j x base made F')(hl:Sys w0 m V' b p G)(hb:Below w0.heap.size w0 w1)(ht:Turn w1 (JobF G j none) w' F')(hj:w0.heap.size≤j):∃ G',Sys w' m V b p G'∧Turn w0 G w' G'∧∀ k,G' k→F' k:=by
 obtain ⟨G1,a1,c1,hJ,rfl⟩:=h;refine ⟨G1,hJ.sys,⟨(Mod.of hb).trans ht.mod fun k hk hlt=>?_,fun k hk=>?_⟩,fun k hk=>.inl hk⟩
 ·rcases hk with hk|hk|⟨y,hy,_⟩
  ·exact hk
  ·omega
  ·cases hy
 ·have:=hb.size
  rcases ht.new k (.inl hk) with (h1|h1|⟨y,hy,_⟩)|h1
  ·exact .inl h1
  ·right;omega
  ·cases hy
  ·right;omega
def CutP (m:Nat)(V:PV)(b p:Nat)(G:Nat→Prop)(T:Tr)(X:List Nat)(k:List Nb)(w0:World)(v:Value)(w':World):Prop :=
 ∃ V' G',Sys w' m V' b p G'∧Turn w0 G w' G'∧Side m V V' X∧V'.D.steps≤V.D.steps+2000 ∧
  v=.tuple #[.int .u64 (uv (valI (T.items []) k)),.int .i64 0]∧∃ o',Own m V' o' X∧TR.Chg k (valI (T.items []) k) 0#64 (T.items []) (itemsO o')
theorem idxCut_calls (x:Nat)(key:ByteArray)(T:Tr)(X:List Nat)(w0:World)(h:Sys w0 m V b p G)(hm:m=6∨m=24)(hst:V.D.steps+3200000<1099511627776)(hx:Blk w0 x (IxC p b) 178)(hxG:¬ G x)(hk:key.size≤16)(hO:Own m V (some T) X)(hval:valI (T.items []) (nibs key)≠0#64) :
  Ret Tryz.prog 90 #[.pointer (some ⟨x,0,none⟩),.string key] w0 fun v w'=>CutP m V b p G T X (nibs key) w0 v w':=by
 have bel0:=Below.refl w0.heap.size w0;have zf:=sz hm;have hr:=hO.rest;have hT:=hO.tree;have hnl:=nibs_len key;have htl:=h.tabs.lt;refine ret_of (args:=[_,_]) _ Tryz.func90 rfl Tryz.ntmps90 (by simp) ?_;simp -implicitDefEqProofs [go_sem];refine callE_of (idxAsk_calls x key w0 hx hk) ?_;rintro v w1 ⟨rfl,rfl⟩;have h0:=h;have hx0:=hx;simp -implicitDefEqProofs [go_sem];refine callE_of (idxPath_calls x key T w1 h.pd hr hm hx hk hT.root (hT.at_ T rfl) (hT.ok T rfl)) ?_
 rintro v w2 ⟨c,t,r,Q,a,cap,a7,c7,rfl,hkey,hE,rfl,hW,h7,b2,hWN⟩;have bel2:=btr bel0 b2;replace h:=h.next b2
 replace hx:=hx.next b2
 have hv:=val_way (hT.ok _ rfl) hkey hE;have hcl:c.length≤32:=by
  have h3:=congrArg List.length hkey;have h4:=pth_len c;rw [List.length_append] at h3;omega
 have hp:t.pre=r:=by
  by_cases hp:t.pre=r
  ·exact hp
  ·rw [if_neg hp] at hv;exact absurd hv hval
 rw [if_pos hp] at hv;rw [hv] at hval;simp -implicitDefEqProofs [go_sem];refine callE_of (idxStands_calls Q a a7 cap c7 c t r w2 hW h7 (by omega)) ?_;rintro v w3 ⟨b3,hs⟩;have bel3:=btr bel2 b3;replace h:=h.next b3
 replace hx:=hx.next b3
 rw [if_pos hp] at hs;subst hs;obtain ⟨C,hC⟩:∃ C,C=plC (Q c.length) t.nv t.off (lbW c c.length) (wdW c t c.length):=⟨_,rfl⟩;have hC1:∀ v∈C.toList,v.oneCell'=true:=by rw [hC];exact plC_one _ _ _ _ _
 have hCs:C.size=7:=by rw [hC];rfl
 have hvn:t.nv.val=t.val:=by cases t;rfl
 have hk1:C[1]?=some (.int .u64 (uv t.val)):=by rw [hC,← hvn];rfl
 have hk3:C[3]?=some (.slice (Q c.length).a3 t.nv.kids.length (Q c.length).c3):=by rw [hC];rfl
 rw [← hC];have st:=stNew (P:=Tryz.prog) (t:=236) (cs:=C) (C0:=#[.slice none 0 0,.int .u64 0,.slice none 0 0,.slice none 0 0,.int .i64 0,.int .u8 0,.int .i64 0]) (by rw [hCs];exact plI) (by rw [hCs];rfl) hC1;have h0':(t.val==0#64)=false:=by simpa using hval
 simp -implicitDefEqProofs [go_sem,↓st];generalize hw4:World.alloc w3 _=w4 at *;obtain ⟨hB4,b4,sz4,bel4⟩:=newF hw4 bel3;replace h:=h.next b4
 replace hx:=hx.next b4
 have b24:=btr b3 b4;have ld4:=ldAll (P:=Tryz.prog) hB4 Tryz.underlying236 rfl plI (n:=7) hCs;obtain ⟨o,pr,vl,ks⟩:=t;have hp:pr=r:=hp;subst hp;have hN:=(at_nd.1 (plug_at (hT.at_ _ rfl))).1;obtain ⟨n1,n2,n3,_⟩:=hN.in_ hm;have hval':vl≠0#64:=hval;have hkl:(Tr.nd o pr vl ks).nv.kids.length=ks.len:=offs_len ks;rw [hkl] at hk3;have hcv:=hv;have hcv:valI ((plug c (Tr.nd o pr vl ks)).items []) (nibs key)=vl:=hv;by_cases hks:ks=.nil
 ·subst hks;have hk3':C[3]?=some (.slice (Q c.length).a3 0 (Q c.length).c3):=hk3;simp -implicitDefEqProofs [go_sem,hB4.cell,hk1,hk3',h0'];have ld4':=fun w' (hw:Below w4.heap.size w4 w')=>ldAll (P:=Tryz.prog) (hB4.next hw) Tryz.underlying236 rfl plI (n:=7) hCs
  have hB40:=hB4;generalize hw5:World.alloc w4 _=w5 at *;obtain ⟨hB5,b5,sz5,bel5⟩:=newF hw5 bel4;replace h:=h.next b5
  replace hx:=hx.next b5
  replace hB4:=hB4.next b5
  have hj0:w1.heap.size≤w4.heap.size:=bel4.size;have hGlt:=h0.lt;have hxlt:=hx0.lt;have hjG:¬ G w4.heap.size:=fun hg=>by have:=hGlt _ hg;omega
  have hJS:=js_start h hx hxG hB5 hjG (by omega) (by omega);have hFlt:∀ k,JobF G w4.heap.size none k→k<w1.heap.size∨k=w4.heap.size:=fun k hk=>by
   rcases hk with hk|hk|⟨y,hy,_⟩
   ·exact .inl (hGlt k hk)
   ·exact .inr hk
   ·cases hy
  have b25:=btr b24 b5;have s24:w2.heap.size≤w4.heap.size:=b24.size;have hsep:∀ {y:Option Addr},SepA w2 (fun z=>z<w1.heap.size) y→SepA w5 (JobF G w4.heap.size none) y:=fun hy z hz=>by
   have h1:=hy z hz;have:=b25.size;refine ⟨by omega,fun hf=>?_⟩
   rcases hFlt _ hf with h2|h2
   ·exact h1.2 h2
   ·omega
  have hnd5:∀ i,i<c.length+1→NdS w5 (JobF G w4.heap.size none) (Q i) (subT c (Tr.nd o pr vl .nil) i).nv:=fun i hi=>by
   have h1:=hWN.nd i hi;exact ⟨(h1.next b25).in_,hsep h1.s1,hsep h1.s2,hsep h1.s3⟩
  have hBF:¬ JobF G w4.heap.size none w3.heap.size:=fun hf=>by
   rcases hFlt _ hf with h2|h2
   ·have:=bel3.size;omega
   ·have:=hB40.lt;omega
  refine callE_of (jobPrune_calls hm Q c o pr vl X w5 hJS hO (by omega) ⟨hW.row.next b25,fun i hi=>(hW.nd i hi).next b25⟩ hnd5 (hsep hWN.sa) hcl) ?_;rintro v w6 ⟨V6,F6,made,hJ6,t6,hside,hst6,hres⟩;obtain ⟨hB6,hBF6⟩:=hB4.keepT hBF t6;obtain ⟨G6,hS6,tG6,hGF6⟩:=js_end2 hJ6 h0 bel5 t6 hj0
  rcases hres with ⟨rfl,o',hO6,hch⟩|⟨rfl,hO6⟩
  ·simp -implicitDefEqProofs [go_sem,hB6.cell,hk1];refine body_tmp2 4 5 rfl ?_;simp -implicitDefEqProofs [go_sem];rw [← hkey] at hch;refine ⟨V6,G6,hS6,tG6,hside,by omega,?_,o',hO6,?_⟩
   ·rw [hcv];rfl
   ·rw [hcv];exact hch
  ·have ld6:=ldAll (P:=Tryz.prog) hB6 Tryz.underlying236 rfl plI (n:=7) hCs;simp -implicitDefEqProofs [go_sem,↓ld6];obtain ⟨e1,hP,e2,e3,e4⟩:=own_value hm hO6 (u:=0#64) (fun h=>absurd rfl h);have hx6:=hx.mod (F:=JobF G w4.heap.size none) t6.mod (fun hf=>by
    rcases hf with hf|hf|⟨y,hy,_⟩
    ·exact hxG hf
    ·omega
    ·cases hy)
   have hxG6:¬ G6 x:=out_turn hxG hx0.lt tG6;have hv0:=idxValue_calls x (Q c.length) (Tr.nd o pr vl .nil).nv o (wdW c (Tr.nd o pr vl .nil) c.length) (lbW c c.length) 0#64 w6 hS6 (by omega) hx6 hxG6 (by omega);rw [show plC (Q c.length) (Tr.nd o pr vl .nil).nv o (lbW c c.length) (wdW c (Tr.nd o pr vl .nil) c.length)=C from hC.symm,show uv (0#64)=0 from rfl] at hv0;refine callE_of hv0 ?_;rintro v w7 ⟨rfl,G7,hS7,t7⟩;rw [e1];have hBG6:¬ G6 w3.heap.size:=fun hf=>hBF6 (hGF6 _ hf)
   obtain ⟨hB7,-⟩:=hB6.keepT hBG6 t7;simp -implicitDefEqProofs [go_sem,hB7.cell,hk1];refine body_tmp2 4 5 rfl ?_;simp -implicitDefEqProofs [go_sem];rw [← hkey] at e4;have hs:=hP.steps;refine ⟨pokeV V6 (o+16) 0#64,G7,hS7,tG6.trans t7,hside.trans e3,by omega,?_,_,e2,?_⟩
   ·rw [hcv];rfl
   ·rw [hcv];exact e4
 ·have hkn:((ks.len:Int)==0)=false:=by
   rw [beq_eq_false_iff_ne];intro e;apply hks;cases ks with
   | nil=>rfl
   | cons x t r=>simp only [Ks.len] at e;omega
  simp -implicitDefEqProofs [go_sem,hB4.cell,hk1,hk3,h0',hkn,↓ld4];obtain ⟨e1,hP,e2,e3,e4⟩:=own_value hm hO (u:=0#64) (fun h=>absurd rfl h);have hv0:=idxValue_calls x (Q c.length) (Tr.nd o pr vl ks).nv o (wdW c (Tr.nd o pr vl ks) c.length) (lbW c c.length) 0#64 w4 h (by omega) hx hxG (by omega);rw [show plC (Q c.length) (Tr.nd o pr vl ks).nv o (lbW c c.length) (wdW c (Tr.nd o pr vl ks) c.length)=C from hC.symm,show uv (0#64)=0 from rfl] at hv0;refine callE_of hv0 ?_;rintro v w5 ⟨rfl,G5,hS5,t5⟩
  rw [e1];have hBG:¬ G w3.heap.size:=fun hf=>by have:=h0.lt _ hf;have:=bel3.size;omega
  obtain ⟨hB5,-⟩:=hB4.keepT hBG t5;simp -implicitDefEqProofs [go_sem,hB5.cell,hk1];refine body_tmp2 4 5 rfl ?_;simp -implicitDefEqProofs [go_sem];rw [← hkey] at e4;have hs:=hP.steps;refine ⟨pokeV V (o+16) 0#64,G5,hS5,(Turn.of bel4).trans t5,e3,by omega,?_,_,e2,?_⟩
  ·rw [hcv];rfl
  ·rw [hcv];exact e4
end
end
section
open Go Go.RowKit Go.Maps
def Reads (D:DataW Unit)(f:Int→Int):Prop:=∀ x,I64 x→(f x=0∧∀ z,D.atKey (.int .i64 x) z=z)∨(f x≠0∧∀ z,D.atKey (.int .i64 x) z=.lit (.int .i64 (f x)))
def MapI (w:World)(b n:Nat)(f:Int→Int):Prop:=∃ D:DataW Unit,w.ownsMap Tryz.prog 3 (plainElem Tryz.prog 3) b n D∧Reads D f
theorem i64_wf {x:Int}(h:I64 x):(Lit.int .i64 x).wf=true:=by simpa [I64,Lit.wf,IntKind.min,IntKind.max,IntKind.signed,IntKind.bits] using h
theorem keyII {z:Int}(h:I64 z):keyOf Tryz.prog 3 (.int .i64 z)=some (.int .i64 z):=keyOf_int_mk Tryz.underlying3 (i64_wf h)
theorem wf_i64' {x:Int}(h:(Lit.int .i64 x).wf=true):I64 x:=by simpa [I64,Lit.wf,IntKind.min,IntKind.max,IntKind.signed,IntKind.bits] using h
section
variable {w w':World} {b r n cnt:Nat} {f:Int→Int} {left:Int→Bool} {t:TypeId}
theorem MapI.lt (h:MapI w b n f):b<w.heap.size:=by obtain ⟨_,h,_⟩:=h;exact h.lt
theorem MapI.mod {F:Nat→Prop}(h:MapI w b n f)(hm:Mod F w w')(hF:¬ F b):MapI w' b n f:=by
 obtain ⟨D,⟨es,clock,hb,r⟩,hf⟩:=h;exact ⟨D,⟨es,clock,(hm.block b (Array.getElem?_eq_some_iff.1 hb).1 hF).trans hb,r⟩,hf⟩
theorem MapI.next (h:MapI w b n f)(hb:Below w.heap.size w w'):MapI w' b n f:=h.mod (Mod.of (F:=fun _=>False) hb) (fun h=>h)
theorem mapI_made (w:World):MapI (w.alloc (.map #[] 0)) w.heap.size 0 (fun _=>0):=⟨.map [],World.ownsMap_made w Tryz.prog _ _,fun _ _=>.inl ⟨rfl,fun _=>rfl⟩⟩
theorem MapI.congr (h:MapI w b n f){g:Int→Int}(he:∀ x,I64 x→g x=f x):MapI w b n g:=by
 obtain ⟨D,h1,h2⟩:=h;exact ⟨D,h1,fun x hx=>by rw [he x hx];exact h2 x hx⟩
theorem MapI.look (h:MapI w b n f)(ht:Tryz.prog.underlying t=some (.map 3 3)){x:Int}(hx:I64 x):(Instr.lookup t (.map (some b)) (.int .i64 x) false).run Tryz.prog w=.ok (.int .i64 (f x)) w:=by
 obtain ⟨D,h1,h2⟩:=h;obtain ⟨c,hr,hc,_⟩:=h1.lookup_int (Maps.int_keyed Tryz.underlying3) ht Tryz.underlying3 (Tryz.zeroValue3 w) (keyII hx);rw [hr]
 rcases h2 x hx with ⟨e0,h3⟩|⟨_,h3⟩
 ·rw [h3] at hc;simp only [DataW.lit.injEq,Lit.int.injEq,true_and] at hc;rw [e0,hc]
 ·rw [h3] at hc;simp only [DataW.lit.injEq,Lit.int.injEq,true_and] at hc;rw [hc]
theorem MapI.put (h:MapI w b n f)(ht:Tryz.prog.underlying t=some (.map 3 3))(hn:n<maxLen){x v:Int}(hx:I64 x)(hv:I64 v)(hv0:v≠0) :
  ∃ w',(Instr.mapUpdate t (.map (some b)) (.int .i64 x) (.int .i64 v)).run Tryz.prog w=.ok () w'∧MapI w' b (n+1) (fun z=>if z=x then v else f z)∧w.grownBy w' (some b):=by
 obtain ⟨D,h1,h2⟩:=h;have hm:=h1.isMap;obtain ⟨w',hr,ho,hg⟩:=h1.update (Maps.int_keyed Tryz.underlying3) ht hn (keyII hx) (plainElem_int Tryz.underlying3 (i64_wf hv));refine ⟨w',hr,⟨_,ho,fun z hz=>?_⟩,hg⟩;by_cases e:z=x
 ·subst e;right;simp only [if_true];exact ⟨hv0,fun z'=>atKey_put_same (k:=.int .i64 z) hm trivial _ _⟩
 ·simp only [if_neg e]
  rcases h2 z hz with ⟨e0,h3⟩|⟨e0,h3⟩
  ·exact .inl ⟨e0,fun z'=>by rw [atKey_put_other (by intro h;exact e (by injection h))];exact h3 z'⟩
  ·exact .inr ⟨e0,fun z'=>by rw [atKey_put_other (by intro h;exact e (by injection h))];exact h3 z'⟩
end
end
section
open Go Go.RowKit
open TR
theorem run_append_zero {P:Program}{w:World}{t ty e:TypeId}{i:TypeInfo}{z:Value}(ht:P.underlying t=some (.slice e))(hi:P.info? e=some i)(hz:i.zero=some z)(a x:Option Addr)(n c c2:Nat)(hn:n≤c) :
  (Builtin.append_ #[t,t] ty #[.slice a n c,.slice x 0 c2]).run P w=.ok (.slice a n c) w:=by
 have hf:∀ size,(Builtin.firstCells size 0 (.slice x 0 c2)).run P w=.ok #[] w:=fun size=>by
  cases x with
  | none=>exact run_firstCells_none w size 0 0 c2
  | some x=>exact run_firstCells_some (P:=P) w size 0 x 0 c2 [] (by simp) (fun j v h=>by simp at h)
 cases a with
 | none=>simp [Builtin.append_,run_underlying ht,sizeOf,typeInfo,hi,Builtin.lenOf,hn,hf]
 | some a=>simp [Builtin.append_,run_underlying ht,sizeOf,typeInfo,hi,Builtin.lenOf,hn,hf,storeCells]
theorem append_full {w:World}{a a2:Option Addr}{l l2:List (BitVec 8)}{c c2:Nat}(h:SlIn .u8 w a l c)(h2:SlIn .u8 w a2 l2 c2)(hl:l.length+l2.length≤1000000)(ha:a=none→l=[]) :
  ∃ a' c' w',(appendB #[36,36] 36 #[.slice a l.length l.length,.slice a2 l2.length c2]).run Tryz.prog w=.ok (.slice a' (l.length+l2.length) c') w'∧SlIn .u8 w' a' (l++l2) c'∧Below w.heap.size w w' ∧
   (∀ y,a'=some y→(∃ y0,a=some y0∧y0.block=y.block)∨(w.heap.size≤y.block∧y.block<w'.heap.size)):=by
 unfold appendB;obtain ⟨i,z,hi,hz,hs,hb,hzs⟩:=eI_u8.get;by_cases h0:l2=[]
 ·subst h0;refine ⟨a,l.length,w,run_append_zero Tryz.underlying36 hi hz a a2 l.length l.length c2 (Nat.le_refl _),?_,Below.refl _ _,fun y hy=>.inl ⟨y,hy,rfl⟩⟩;rw [List.append_nil];exact ⟨h.at_,Nat.le_refl _,by omega,fun hn=>by rw [ha hn];rfl⟩
 ·have hpos:0<l2.length:=List.length_pos_iff.2 h0;obtain ⟨x2,o2,rfl,-⟩:=h2.at_.cell (i:=0) hpos;have hn2:∀ (w':World),w'=w→∀ j u,(cellsK .u8 l2)[j]?=some u→w'.cell? ((⟨x2,o2,none⟩:Addr).add j)=some u:=fun w' e j u hu=>by
   subst e
   rcases h2.at_ with h3|⟨b3,o3,e3,hc⟩
   ·exact absurd h3 h0
   ·obtain ⟨rfl,rfl⟩:x2=b3∧o2=o3:=by simpa using e3
    have hj:j<l2.length:=by
     have:=(List.getElem?_eq_some_iff.1 hu).1;rw [cellsK_length] at this;exact this
    have h5:=hc j hj;rw [Addr.add_lit,h5];simp [cellsK,hj] at hu;rw [← hu]
  have hgc:=fun W n o=>grownCap_ge W n o 5
  have hgm:=fun W n o hn=>grownCap_le_maxLen W n o 5 hn
  have hlen:∀ (W:World) (b:Nat) (c':Nat) (X:List Value),Blk W b (cellsK .u8 (l++l2)++X).toArray 5→l.length+l2.length≤c'→c'≤9223372036854775807→SlIn .u8 W (some ⟨b,0,none⟩) (l++l2) c':=fun W b c' X hB h1 h2=>⟨slAt_blk hB (fun j hj=>by
    rw [List.getElem?_toArray,List.getElem?_append_left (by rw [cellsK_length];exact hj)];unfold cellsK;rw [List.getElem?_map,List.getElem?_eq_getElem hj];rfl),by rw [List.length_append];exact h1,h2,fun h=>by cases h⟩
  rcases Option.eq_none_or_eq_some a with rfl|⟨y,rfl⟩
  ·rw [ha rfl] at hlen ⊢;have hr:=run_append_nil (P:=Tryz.prog) w 36 36 5 i z Tryz.underlying36 hi hz ⟨x2,o2,none⟩ l2.length c2 (cellsK .u8 l2) (by rw [cellsK_length,hs,Nat.mul_one]) (hn2 w rfl) hpos (by omega) (by rw [hb];omega);refine ⟨some ⟨w.heap.size,0,none⟩,_,_,by rw [List.length_nil,Nat.zero_add];exact hr,?_,((Below.refl _ _).drew).alloc (Nat.le_refl _) _,fun y hy=>by
    obtain rfl:=Option.some.inj hy;exact .inr ⟨Nat.le_refl _,by simp⟩⟩
   refine hlen _ _ _ (Builtin.zeroCells z.cells (grownCap w l2.length 0 5-l2.length)).toList ?_ (by rw [List.length_nil,Nat.zero_add];exact hgc _ _ _) (by have:=hgm w l2.length 0 (by unfold maxLen;omega);unfold maxLen at this;omega);rw [List.nil_append];have e:(cellsK IntKind.u8 l2++(Builtin.zeroCells z.cells (grownCap w l2.length 0 5-l2.length)).toList).toArray=(cellsK IntKind.u8 l2).toArray++Builtin.zeroCells z.cells (grownCap w l2.length 0 5-l2.length):=by apply Array.ext';simp
   rw [e];exact Blk.new w.drew _ _
  ·have hn1:∀ j u,(cellsK .u8 l)[j]?=some u→w.cell? (y.add j)=some u:=fun j u hu=>by
    have hj:j<l.length:=by
     have:=(List.getElem?_eq_some_iff.1 hu).1;rw [cellsK_length] at this;exact this
    rcases h.at_ with h3|⟨b3,o3,e3,hc⟩
    ·rw [h3] at hj;cases hj
    ·obtain rfl:=Option.some.inj e3;rw [Addr.add_lit,hc j hj];simp [cellsK,hj] at hu;rw [← hu]
   have hr:=run_append_grow (P:=Tryz.prog) w 36 36 5 i z Tryz.underlying36 hi hz y l.length l.length (cellsK .u8 l) (by rw [cellsK_length,hs,Nat.mul_one]) hn1 ⟨x2,o2,none⟩ l2.length c2 (cellsK .u8 l2) (by rw [cellsK_length,hs,Nat.mul_one]) (hn2 w rfl) (by omega) (by omega) (growslice_fits (by omega) (by rw [hb];omega));refine ⟨some ⟨w.heap.size,0,none⟩,_,_,hr,?_,((Below.refl _ _).drew).alloc (Nat.le_refl _) _,fun y hy=>by
    obtain rfl:=Option.some.inj hy;exact .inr ⟨Nat.le_refl _,by simp⟩⟩
   refine hlen _ _ _ (Builtin.zeroCells z.cells (grownCap w (l.length+l2.length) l.length 5-(l.length+l2.length))).toList ?_ (hgc _ _ _) (by have:=hgm w (l.length+l2.length) l.length (by unfold maxLen;omega);unfold maxLen at this;omega)
   have e:(cellsK IntKind.u8 (l++l2)++(Builtin.zeroCells z.cells (grownCap w (l.length+l2.length) l.length 5-(l.length+l2.length))).toList).toArray=(cellsK IntKind.u8 l).toArray++(cellsK IntKind.u8 l2).toArray++Builtin.zeroCells z.cells (grownCap w (l.length+l2.length) l.length 5-(l.length+l2.length)):=by apply Array.ext';simp [cellsK_append]
   rw [e];exact Blk.new w.drew _ _
def kit (e:TR.Item):Array Value:=#[.string (keyS e.1),.int .u64 (uv e.2)]
theorem kit_size (l:List TR.Item):∀ x∈l.map kit,x.size=2:=by
 intro x hx;obtain ⟨e,_,rfl⟩:=List.mem_map.1 hx;rfl
theorem kit_one (e:TR.Item):∀ v∈(kit e).toList,v.oneCell'=true:=by
 intro v hv;simp [kit] at hv
 rcases hv with rfl|rfl<;>rfl
theorem eI_item:EInfo Tryz.prog 149 2 24:=by unfold EInfo;kernel_rfl
def addF (L:List Nat)(f:Int→Int):Int→Int:=fun z=>if z∈L.map (fun o:Nat=>(o:Int)) then 1 else f z
theorem addF_nil (f:Int→Int):addF [] f=f:=by funext z;simp [addF]
theorem addF_app (L1 L2:List Nat)(f:Int→Int):addF L2 (addF L1 f)=addF (L1++L2) f:=by
 funext z
 unfold addF;rw [List.map_append];by_cases h2:z∈L2.map (fun o:Nat=>(o:Int))
 ·rw [if_pos h2,if_pos (List.mem_append_right _ h2)]
 ·rw [if_neg h2];by_cases h1:z∈L1.map (fun o:Nat=>(o:Int))
  ·rw [if_pos h1,if_pos (List.mem_append_left _ h1)]
  ·rw [if_neg h1,if_neg (fun h=>(List.mem_append.1 h).elim h1 h2)]
theorem addF_not {L:List Nat}{f:Int→Int}{o:Nat}(h:o∉L):addF L f (o:Int)=f (o:Int):=by
 unfold addF;rw [if_neg];intro hm;obtain ⟨y,hy,e⟩:=List.mem_map.1 hm;have:y=o:=by omega
 exact h (this▸hy)
structure Surv (w:World) (b p s x mb base n:Nat) (I:List TR.Item) (f:Int→Int) (a:Option Addr) (cap:Nat):Prop where
 sv:Blk w s #[.pointer (some ⟨x,0,none⟩),.slice a I.length cap,.map (some mb)] 199
 ix:Blk w x (IxC p b) 178
 own:w.ownsRow base 149 2 (.slice a I.length cap) I.length (flatR (I.map kit))
 map:MapI w mb n f
 base:base≤w.heap.size
 smb:s≠mb
 sx:s≠x
 mx:mb≠x
 as_:¬ BlkOf a s
 am:¬ BlkOf a mb
 ax:¬ BlkOf a x
def SurvF (s mb:Nat)(a:Option Addr)(k:Nat):Prop:=k=s∨k=mb∨BlkOf a k
section
variable {w w':World} {b p s x mb base n cap:Nat} {I:List TR.Item} {f:Int→Int} {a:Option Addr} {F:Nat→Prop}
theorem Surv.mod (h:Surv w b p s x mb base n I f a cap)(hm:Mod F w w')(hF:∀ k,SurvF s mb a k→¬ F k)(hx:¬ F x):Surv w' b p s x mb base n I f a cap :=
 ⟨h.sv.mod hm (hF s (.inl rfl)),h.ix.mod hm hx,ownsRow_turn h.own hm fun k hk=>hF k (.inr (.inr hk)),h.map.mod hm (hF mb (.inr (.inl rfl))),Nat.le_trans h.base hm.size,h.smb,h.sx,h.mx,h.as_,h.am,h.ax⟩
theorem Surv.next (h:Surv w b p s x mb base n I f a cap)(hb:Below w.heap.size w w'):Surv w' b p s x mb base n I f a cap:=h.mod (Mod.of (F:=fun _=>False) hb) (fun _ _ h=>h) (fun h=>h)
theorem Surv.lt (h:Surv w b p s x mb base n I f a cap):∀ k,SurvF s mb a k→k<w.heap.size:=by
 rintro k (rfl|rfl|hk)
 ·exact h.sv.lt
 ·exact h.map.lt
 ·exact (ownsRow_blk h.own k hk).2
theorem Surv.met (h:Surv w b p s x mb base n I f a cap)(hn:n<maxLen){o:Nat}(ho:o<1000000) :
  ∃ w',(Instr.mapUpdate 197 (.map (some mb)) (.int .i64 (o:Int)) (.int .i64 1)).run Tryz.prog w=.ok () w'∧Surv w' b p s x mb base (n+1) I (addF [o] f) a cap∧Mod (fun k=>k=mb) w w'∧w'.heap.size=w'.heap.size:=by
 obtain ⟨w',hr,hM,hg⟩:=h.map.put (t:=197) Tryz.underlying197 hn (x:=(o:Int)) (v:=1) (by unfold I64;omega) (by unfold I64;omega) (by decide);have hm:Mod (fun k=>k=mb) w w':=(mod_of_grown hg).mono fun k hk _=>(Option.some.inj hk).symm
 refine ⟨w',hr,⟨h.sv.mod hm (fun e=>h.smb e),h.ix.mod hm (fun e=>h.mx e.symm),ownsRow_turn h.own hm fun k hk e=>h.am (e▸hk),hM.congr fun z _=>?_,Nat.le_trans h.base hm.size,h.smb,h.sx,h.mx,h.as_,h.am,h.ax⟩,hm,rfl⟩;unfold addF;by_cases e:z=(o:Int)
 ·rw [if_pos e,if_pos (by simp [e])]
 ·rw [if_neg e,if_neg (by simp [e])]
theorem Surv.push (h:Surv w b p s x mb base n I f a cap)(hI:I.length≤1000)(e:TR.Item) :
  ∃ g c2 w2,(appendB #[142,142] 142 #[.slice a I.length cap,.slice (some ⟨w.heap.size,0,none⟩) 1 1]).run Tryz.prog (w.alloc (.cells (kit e) 149))=.ok (.slice (some ⟨g,0,none⟩) (I.length+1) c2) w2 ∧
   Blk w2 s #[.pointer (some ⟨x,0,none⟩),.slice a I.length cap,.map (some mb)] 199 ∧
   Surv (w2.setCell ⟨s,1,none⟩ (.slice (some ⟨g,0,none⟩) (I.length+1) c2)) b p s x mb base n (I++[e]) f (some ⟨g,0,none⟩) c2∧Turn w (SurvF s mb a) (w2.setCell ⟨s,1,none⟩ (.slice (some ⟨g,0,none⟩) (I.length+1) c2)) (SurvF s mb (some ⟨g,0,none⟩)):=by
 obtain ⟨g,c2,w2,hr,ho,hg1,hg2,hsz,ht⟩:=push_own (P:=Tryz.prog) (t:=142) (ty:=142) (cs:=kit e) Tryz.underlying142 eI_item (by decide) rfl (kit_one e) (by decide) (by omega) h.base h.own;have hs:=h.sv.lt;have hx:=h.ix.lt;have hmb:=h.map.lt;have hgb:∀ k,BlkOf (some ⟨g,0,none⟩) k→g=k:=fun k ⟨y,hy,hk⟩=>by obtain rfl:=Option.some.inj hy;exact hk
 have hgn:∀ k,k<w.heap.size→¬ BlkOf a k→g≠k:=fun k h1 h2 e=>by
  rcases ht.new g rfl with h3|h3
  ·rw [e] at h3;exact h2 h3
  ·omega
 have hs2:Blk w2 s _ _:=h.sv.mod ht.mod h.as_;have ms:Mod (fun k=>k=s) w2 (w2.setCell ⟨s,1,none⟩ (.slice (some ⟨g,0,none⟩) (I.length+1) c2)):=(Mod.refl (fun k=>k=s) w2).setCell (.inl rfl) _;refine ⟨g,c2,w2,hr,hs2,⟨?_,(h.ix.mod ht.mod h.ax).mod ms (fun e=>h.sx e.symm),?_,(h.map.mod ht.mod h.am).mod ms (fun e=>h.smb e.symm),?_,h.smb,h.sx,h.mx,fun hk=>hgn s hs h.as_ (hgb s hk),fun hk=>hgn mb hmb h.am (hgb mb hk),fun hk=>hgn x hx h.ax (hgb x hk)⟩,?_⟩
 ·have:=hs2.set 1 (.slice (some ⟨g,0,none⟩) (I.length+1) c2);rw [List.length_append,List.length_singleton];exact this
 ·rw [List.length_append,List.length_singleton,List.map_append,List.map_singleton,flatR_append,flatR_one];exact ownsRow_turn ho ms fun k hk e=>hgn s hs h.as_ ((hgb k hk).trans e)
 ·have:=ms.size;have:=h.base;omega
 ·refine ⟨(ht.mod.mono (G:=SurvF s mb a) fun k hk _=>.inr (.inr hk)).trans ms fun k hk _=>.inl hk,fun k hk=>?_⟩
  rcases hk with hk|hk|hk
  ·exact .inl (.inl hk)
  ·exact .inl (.inr (.inl hk))
  ·obtain rfl:=hgb k hk
   rcases ht.new g rfl with h3|h3
   ·exact .inl (.inr (.inr h3))
   ·exact .inr h3
end
end
end Go.Proofs.YtaaihijkdhmcdaaGreatDoor
