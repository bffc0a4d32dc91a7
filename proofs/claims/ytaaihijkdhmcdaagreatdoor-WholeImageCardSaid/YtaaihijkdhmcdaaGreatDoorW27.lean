/- WholeImage, part 28 of 38: contracts and lemmas of its proof. Conditions: none. -/
import Derived.Test.YtaaihijkdhmcdaaGreatDoorW26
import Derived.Test.YtaaihijkdhmcdaaGreatDoorW01
import Derived.Test.YtaaihijkdhmcdaaGreatDoorW17
import Derived.Maps.OwnSet
import Derived.Maps.Views
import Derived.Maps.RangeWalk
import Derived.Carry
set_option linter.unusedVariables false
set_option linter.unusedSimpArgs false
set_option maxRecDepth 100000
namespace Go.Proofs.YtaaihijkdhmcdaaGreatDoor
section
open Go Go.RowKit
open TR
section
variable {w w':World} {m b p j x base cap:Nat} {V V':PV} {G G' F F':Nat→Prop} {made:List Nat} {a:Option Addr}
set_option maxHeartbeats 4000000
theorem js_end2 {w0 w1:World}(h:JS w' m V b p j x base made F')(hl:Sys w0 m V' b p G)(hb:Below w0.heap.size w0 w1)(ht:Turn w1 (JobF G j none) w' F')(hj:w0.heap.size≤j):∃ G',Sys w' m V b p G'∧Turn w0 G w' G'∧∀ k,G' k→F' k:=by
 obtain ⟨G1,a1,c1,hJ,rfl⟩:=h;refine ⟨G1,hJ.sys,⟨(Mod.of hb).trans ht.mod fun k hk hlt=>?_,fun k hk=>?_⟩,fun k hk=>.inl hk⟩
 ·rcases hk with hk|hk|⟨y,hy,_⟩
  ·exact hk
  ·omega
  ·cases hy
 ·have:=hb.size
  rcases ht.new k (.inl hk) with (h1|h1|⟨y,hy,_⟩)|h1
  ·exact .inl h1
  ·right;omega
  ·cases hy
  ·right;omega
def CutP (m:Nat)(V:PV)(b p:Nat)(G:Nat→Prop)(T:Tr)(X:List Nat)(k:List Nb)(w0:World)(v:Value)(w':World):Prop :=
 ∃ V' G',Sys w' m V' b p G'∧Turn w0 G w' G'∧Side m V V' X∧V'.D.steps≤V.D.steps+2000 ∧
  v=.tuple #[.int .u64 (uv (valI (T.items []) k)),.int .i64 0]∧∃ o',Own m V' o' X∧TR.Chg k (valI (T.items []) k) 0#64 (T.items []) (itemsO o')
theorem idxCut_calls (x:Nat)(key:ByteArray)(T:Tr)(X:List Nat)(w0:World)(h:Sys w0 m V b p G)(hm:m=6∨m=24)(hst:V.D.steps+3200000<1099511627776)(hx:Blk w0 x (IxC p b) 178)(hxG:¬ G x)(hk:key.size≤16)(hO:Own m V (some T) X)(hval:valI (T.items []) (nibs key)≠0#64) :
  Ret Tryz.prog 90 #[.pointer (some ⟨x,0,none⟩),.string key] w0 fun v w'=>CutP m V b p G T X (nibs key) w0 v w':=by
 have bel0:=Below.refl w0.heap.size w0;have zf:=sz hm;have hr:=hO.rest;have hT:=hO.tree;have hnl:=nibs_len key;have htl:=h.tabs.lt;refine ret_of (args:=[_,_]) _ Tryz.func90 rfl Tryz.ntmps90 (by simp) ?_;simp -implicitDefEqProofs [go_sem];refine callE_of (idxAsk_calls x key w0 hx hk) ?_;rintro v w1 ⟨rfl,rfl⟩;have h0:=h;have hx0:=hx;simp -implicitDefEqProofs [go_sem];refine callE_of (idxPath_calls x key T w1 h.pd hr hm hx hk hT.root (hT.at_ T rfl) (hT.ok T rfl)) ?_
 rintro v w2 ⟨c,t,r,Q,a,cap,a7,c7,rfl,hkey,hE,rfl,hW,h7,b2,hWN⟩;have bel2:=btr bel0 b2;replace h:=h.next b2
 replace hx:=hx.next b2
 have hv:=val_way (hT.ok _ rfl) hkey hE;have hcl:c.length≤32:=by
  have h3:=congrArg List.length hkey;have h4:=pth_len c;rw [List.length_append] at h3;omega
 have hp:t.pre=r:=by
  by_cases hp:t.pre=r
  ·exact hp
  ·rw [if_neg hp] at hv;exact absurd hv hval
 rw [if_pos hp] at hv;rw [hv] at hval;simp -implicitDefEqProofs [go_sem];refine callE_of (idxStands_calls Q a a7 cap c7 c t r w2 hW h7 (by omega)) ?_;rintro v w3 ⟨b3,hs⟩;have bel3:=btr bel2 b3;replace h:=h.next b3
 replace hx:=hx.next b3
 rw [if_pos hp] at hs;subst hs;obtain ⟨C,hC⟩:∃ C,C=plC (Q c.length) t.nv t.off (lbW c c.length) (wdW c t c.length):=⟨_,rfl⟩;have hC1:∀ v∈C.toList,v.oneCell'=true:=by rw [hC];exact plC_one _ _ _ _ _
 have hCs:C.size=7:=by rw [hC];rfl
 have hvn:t.nv.val=t.val:=by cases t;rfl
 have hk1:C[1]?=some (.int .u64 (uv t.val)):=by rw [hC,← hvn];rfl
 have hk3:C[3]?=some (.slice (Q c.length).a3 t.nv.kids.length (Q c.length).c3):=by rw [hC];rfl
 rw [← hC];have st:=stNew (P:=Tryz.prog) (t:=236) (cs:=C) (C0:=#[.slice none 0 0,.int .u64 0,.slice none 0 0,.slice none 0 0,.int .i64 0,.int .u8 0,.int .i64 0]) (by rw [hCs];exact plI) (by rw [hCs];rfl) hC1;have h0':(t.val==0#64)=false:=by simpa using hval
 simp -implicitDefEqProofs [go_sem,↓st];generalize hw4:World.alloc w3 _=w4 at *;obtain ⟨hB4,b4,sz4,bel4⟩:=newF hw4 bel3;replace h:=h.next b4
 replace hx:=hx.next b4
 have b24:=btr b3 b4;have ld4:=ldAll (P:=Tryz.prog) hB4 Tryz.underlying236 rfl plI (n:=7) hCs;obtain ⟨o,pr,vl,ks⟩:=t;have hp:pr=r:=hp;subst hp;have hN:=(at_nd.1 (plug_at (hT.at_ _ rfl))).1;obtain ⟨n1,n2,n3,_⟩:=hN.in_ hm;have hval':vl≠0#64:=hval;have hkl:(Tr.nd o pr vl ks).nv.kids.length=ks.len:=offs_len ks;rw [hkl] at hk3;have hcv:=hv;have hcv:valI ((plug c (Tr.nd o pr vl ks)).items []) (nibs key)=vl:=hv;by_cases hks:ks=.nil
 ·subst hks;have hk3':C[3]?=some (.slice (Q c.length).a3 0 (Q c.length).c3):=hk3;simp -implicitDefEqProofs [go_sem,hB4.cell,hk1,hk3',h0'];have ld4':=fun w' (hw:Below w4.heap.size w4 w')=>ldAll (P:=Tryz.prog) (hB4.next hw) Tryz.underlying236 rfl plI (n:=7) hCs
  have hB40:=hB4;generalize hw5:World.alloc w4 _=w5 at *;obtain ⟨hB5,b5,sz5,bel5⟩:=newF hw5 bel4;replace h:=h.next b5
  replace hx:=hx.next b5
  replace hB4:=hB4.next b5
  have hj0:w1.heap.size≤w4.heap.size:=bel4.size;have hGlt:=h0.lt;have hxlt:=hx0.lt;have hjG:¬ G w4.heap.size:=fun hg=>by have:=hGlt _ hg;omega
  have hJS:=js_start h hx hxG hB5 hjG (by omega) (by omega);have hFlt:∀ k,JobF G w4.heap.size none k→k<w1.heap.size∨k=w4.heap.size:=fun k hk=>by
   rcases hk with hk|hk|⟨y,hy,_⟩
   ·exact .inl (hGlt k hk)
   ·exact .inr hk
   ·cases hy
  have b25:=btr b24 b5;have s24:w2.heap.size≤w4.heap.size:=b24.size;have hsep:∀ {y:Option Addr},SepA w2 (fun z=>z<w1.heap.size) y→SepA w5 (JobF G w4.heap.size none) y:=fun hy z hz=>by
   have h1:=hy z hz;have:=b25.size;refine ⟨by omega,fun hf=>?_⟩
   rcases hFlt _ hf with h2|h2
   ·exact h1.2 h2
   ·omega
  have hnd5:∀ i,i<c.length+1→NdS w5 (JobF G w4.heap.size none) (Q i) (subT c (Tr.nd o pr vl .nil) i).nv:=fun i hi=>by
   have h1:=hWN.nd i hi;exact ⟨(h1.next b25).in_,hsep h1.s1,hsep h1.s2,hsep h1.s3⟩
  have hBF:¬ JobF G w4.heap.size none w3.heap.size:=fun hf=>by
   rcases hFlt _ hf with h2|h2
   ·have:=bel3.size;omega
   ·have:=hB40.lt;omega
  refine callE_of (jobPrune_calls hm Q c o pr vl X w5 hJS hO (by omega) ⟨hW.row.next b25,fun i hi=>(hW.nd i hi).next b25⟩ hnd5 (hsep hWN.sa) hcl) ?_;rintro v w6 ⟨V6,F6,made,hJ6,t6,hside,hst6,hres⟩;obtain ⟨hB6,hBF6⟩:=hB4.keepT hBF t6;obtain ⟨G6,hS6,tG6,hGF6⟩:=js_end2 hJ6 h0 bel5 t6 hj0
  rcases hres with ⟨rfl,o',hO6,hch⟩|⟨rfl,hO6⟩
  ·simp -implicitDefEqProofs [go_sem,hB6.cell,hk1];refine body_tmp2 4 5 rfl ?_;simp -implicitDefEqProofs [go_sem];rw [← hkey] at hch;refine ⟨V6,G6,hS6,tG6,hside,by omega,?_,o',hO6,?_⟩
   ·rw [hcv];rfl
   ·rw [hcv];exact hch
  ·have ld6:=ldAll (P:=Tryz.prog) hB6 Tryz.underlying236 rfl plI (n:=7) hCs;simp -implicitDefEqProofs [go_sem,↓ld6];obtain ⟨e1,hP,e2,e3,e4⟩:=own_value hm hO6 (u:=0#64) (fun h=>absurd rfl h);have hx6:=hx.mod (F:=JobF G w4.heap.size none) t6.mod (fun hf=>by
    rcases hf with hf|hf|⟨y,hy,_⟩
    ·exact hxG hf
    ·omega
    ·cases hy)
   have hxG6:¬ G6 x:=out_turn hxG hx0.lt tG6;have hv0:=idxValue_calls x (Q c.length) (Tr.nd o pr vl .nil).nv o (wdW c (Tr.nd o pr vl .nil) c.length) (lbW c c.length) 0#64 w6 hS6 (by omega) hx6 hxG6 (by omega);rw [show plC (Q c.length) (Tr.nd o pr vl .nil).nv o (lbW c c.length) (wdW c (Tr.nd o pr vl .nil) c.length)=C from hC.symm,show uv (0#64)=0 from rfl] at hv0;refine callE_of hv0 ?_;rintro v w7 ⟨rfl,G7,hS7,t7⟩;rw [e1];have hBG6:¬ G6 w3.heap.size:=fun hf=>hBF6 (hGF6 _ hf)
   obtain ⟨hB7,-⟩:=hB6.keepT hBG6 t7;simp -implicitDefEqProofs [go_sem,hB7.cell,hk1];refine body_tmp2 4 5 rfl ?_;simp -implicitDefEqProofs [go_sem];rw [← hkey] at e4;have hs:=hP.steps;refine ⟨pokeV V6 (o+16) 0#64,G7,hS7,tG6.trans t7,hside.trans e3,by omega,?_,_,e2,?_⟩
   ·rw [hcv];rfl
   ·rw [hcv];exact e4
 ·have hkn:((ks.len:Int)==0)=false:=by
   rw [beq_eq_false_iff_ne];intro e;apply hks;cases ks with
   | nil=>rfl
   | cons x t r=>simp only [Ks.len] at e;omega
  simp -implicitDefEqProofs [go_sem,hB4.cell,hk1,hk3,h0',hkn,↓ld4];obtain ⟨e1,hP,e2,e3,e4⟩:=own_value hm hO (u:=0#64) (fun h=>absurd rfl h);have hv0:=idxValue_calls x (Q c.length) (Tr.nd o pr vl ks).nv o (wdW c (Tr.nd o pr vl ks) c.length) (lbW c c.length) 0#64 w4 h (by omega) hx hxG (by omega);rw [show plC (Q c.length) (Tr.nd o pr vl ks).nv o (lbW c c.length) (wdW c (Tr.nd o pr vl ks) c.length)=C from hC.symm,show uv (0#64)=0 from rfl] at hv0;refine callE_of hv0 ?_;rintro v w5 ⟨rfl,G5,hS5,t5⟩
  rw [e1];have hBG:¬ G w3.heap.size:=fun hf=>by have:=h0.lt _ hf;have:=bel3.size;omega
  obtain ⟨hB5,-⟩:=hB4.keepT hBG t5;simp -implicitDefEqProofs [go_sem,hB5.cell,hk1];refine body_tmp2 4 5 rfl ?_;simp -implicitDefEqProofs [go_sem];rw [← hkey] at e4;have hs:=hP.steps;refine ⟨pokeV V (o+16) 0#64,G5,hS5,(Turn.of bel4).trans t5,e3,by omega,?_,_,e2,?_⟩
  ·rw [hcv];rfl
  ·rw [hcv];exact e4
end
end
section
open Go Go.RowKit Go.Maps
def Reads (D:DataW Unit)(f:Int→Int):Prop:=∀ x,I64 x→(f x=0∧∀ z,D.atKey (.int .i64 x) z=z)∨(f x≠0∧∀ z,D.atKey (.int .i64 x) z=.lit (.int .i64 (f x)))
def MapI (w:World)(b n:Nat)(f:Int→Int):Prop:=∃ D:DataW Unit,w.ownsMap Tryz.prog 3 (plainElem Tryz.prog 3) b n D∧Reads D f
theorem i64_wf {x:Int}(h:I64 x):(Lit.int .i64 x).wf=true:=by simpa [I64,Lit.wf,IntKind.min,IntKind.max,IntKind.signed,IntKind.bits] using h
theorem keyII {z:Int}(h:I64 z):keyOf Tryz.prog 3 (.int .i64 z)=some (.int .i64 z):=keyOf_int_mk Tryz.underlying3 (i64_wf h)
theorem wf_i64' {x:Int}(h:(Lit.int .i64 x).wf=true):I64 x:=by simpa [I64,Lit.wf,IntKind.min,IntKind.max,IntKind.signed,IntKind.bits] using h
section
variable {w w':World} {b r n cnt:Nat} {f:Int→Int} {left:Int→Bool} {t:TypeId}
theorem MapI.lt (h:MapI w b n f):b<w.heap.size:=by obtain ⟨_,h,_⟩:=h;exact h.lt
theorem MapI.mod {F:Nat→Prop}(h:MapI w b n f)(hm:Mod F w w')(hF:¬ F b):MapI w' b n f:=by
 obtain ⟨D,⟨es,clock,hb,r⟩,hf⟩:=h;exact ⟨D,⟨es,clock,(hm.block b (Array.getElem?_eq_some_iff.1 hb).1 hF).trans hb,r⟩,hf⟩
theorem MapI.next (h:MapI w b n f)(hb:Below w.heap.size w w'):MapI w' b n f:=h.mod (Mod.of (F:=fun _=>False) hb) (fun h=>h)
theorem mapI_made (w:World):MapI (w.alloc (.map #[] 0)) w.heap.size 0 (fun _=>0):=⟨.map [],World.ownsMap_made w Tryz.prog _ _,fun _ _=>.inl ⟨rfl,fun _=>rfl⟩⟩
theorem MapI.congr (h:MapI w b n f){g:Int→Int}(he:∀ x,I64 x→g x=f x):MapI w b n g:=by
 obtain ⟨D,h1,h2⟩:=h;exact ⟨D,h1,fun x hx=>by rw [he x hx];exact h2 x hx⟩
theorem MapI.look (h:MapI w b n f)(ht:Tryz.prog.underlying t=some (.map 3 3)){x:Int}(hx:I64 x):(Instr.lookup t (.map (some b)) (.int .i64 x) false).run Tryz.prog w=.ok (.int .i64 (f x)) w:=by
 obtain ⟨D,h1,h2⟩:=h;obtain ⟨c,hr,hc,_⟩:=h1.lookup_int (Maps.int_keyed Tryz.underlying3) ht Tryz.underlying3 (Tryz.zeroValue3 w) (keyII hx);rw [hr]
 rcases h2 x hx with ⟨e0,h3⟩|⟨_,h3⟩
 ·rw [h3] at hc;simp only [DataW.lit.injEq,Lit.int.injEq,true_and] at hc;rw [e0,hc]
 ·rw [h3] at hc;simp only [DataW.lit.injEq,Lit.int.injEq,true_and] at hc;rw [hc]
theorem MapI.put (h:MapI w b n f)(ht:Tryz.prog.underlying t=some (.map 3 3))(hn:n<maxLen){x v:Int}(hx:I64 x)(hv:I64 v)(hv0:v≠0) :
  ∃ w',(Instr.mapUpdate t (.map (some b)) (.int .i64 x) (.int .i64 v)).run Tryz.prog w=.ok () w'∧MapI w' b (n+1) (fun z=>if z=x then v else f z)∧w.grownBy w' (some b):=by
 obtain ⟨D,h1,h2⟩:=h;have hm:=h1.isMap;obtain ⟨w',hr,ho,hg⟩:=h1.update (Maps.int_keyed Tryz.underlying3) ht hn (keyII hx) (plainElem_int Tryz.underlying3 (i64_wf hv));refine ⟨w',hr,⟨_,ho,fun z hz=>?_⟩,hg⟩;by_cases e:z=x
 ·subst e;right;simp only [if_true];exact ⟨hv0,fun z'=>atKey_put_same (k:=.int .i64 z) hm trivial _ _⟩
 ·simp only [if_neg e]
  rcases h2 z hz with ⟨e0,h3⟩|⟨e0,h3⟩
  ·exact .inl ⟨e0,fun z'=>by rw [atKey_put_other (by intro h;exact e (by injection h))];exact h3 z'⟩
  ·exact .inr ⟨e0,fun z'=>by rw [atKey_put_other (by intro h;exact e (by injection h))];exact h3 z'⟩
end
end
section
open Go Go.RowKit
open TR
theorem run_append_zero {P:Program}{w:World}{t ty e:TypeId}{i:TypeInfo}{z:Value}(ht:P.underlying t=some (.slice e))(hi:P.info? e=some i)(hz:i.zero=some z)(a x:Option Addr)(n c c2:Nat)(hn:n≤c) :
  (Builtin.append_ #[t,t] ty #[.slice a n c,.slice x 0 c2]).run P w=.ok (.slice a n c) w:=by
 have hf:∀ size,(Builtin.firstCells size 0 (.slice x 0 c2)).run P w=.ok #[] w:=fun size=>by
  cases x with
  | none=>exact run_firstCells_none w size 0 0 c2
  | some x=>exact run_firstCells_some (P:=P) w size 0 x 0 c2 [] (by simp) (fun j v h=>by simp at h)
 cases a with
 | none=>simp [Builtin.append_,run_underlying ht,sizeOf,typeInfo,hi,Builtin.lenOf,hn,hf]
 | some a=>simp [Builtin.append_,run_underlying ht,sizeOf,typeInfo,hi,Builtin.lenOf,hn,hf,storeCells]
theorem append_full {w:World}{a a2:Option Addr}{l l2:List (BitVec 8)}{c c2:Nat}(h:SlIn .u8 w a l c)(h2:SlIn .u8 w a2 l2 c2)(hl:l.length+l2.length≤1000000)(ha:a=none→l=[]) :
  ∃ a' c' w',(appendB #[36,36] 36 #[.slice a l.length l.length,.slice a2 l2.length c2]).run Tryz.prog w=.ok (.slice a' (l.length+l2.length) c') w'∧SlIn .u8 w' a' (l++l2) c'∧Below w.heap.size w w' ∧
   (∀ y,a'=some y→(∃ y0,a=some y0∧y0.block=y.block)∨(w.heap.size≤y.block∧y.block<w'.heap.size)):=by
 unfold appendB;obtain ⟨i,z,hi,hz,hs,hb,hzs⟩:=eI_u8.get;by_cases h0:l2=[]
 ·subst h0;refine ⟨a,l.length,w,run_append_zero Tryz.underlying36 hi hz a a2 l.length l.length c2 (Nat.le_refl _),?_,Below.refl _ _,fun y hy=>.inl ⟨y,hy,rfl⟩⟩;rw [List.append_nil];exact ⟨h.at_,Nat.le_refl _,by omega,fun hn=>by rw [ha hn];rfl⟩
 ·have hpos:0<l2.length:=List.length_pos_iff.2 h0;obtain ⟨x2,o2,rfl,-⟩:=h2.at_.cell (i:=0) hpos;have hn2:∀ (w':World),w'=w→∀ j u,(cellsK .u8 l2)[j]?=some u→w'.cell? ((⟨x2,o2,none⟩:Addr).add j)=some u:=fun w' e j u hu=>by
   subst e
   rcases h2.at_ with h3|⟨b3,o3,e3,hc⟩
   ·exact absurd h3 h0
   ·obtain ⟨rfl,rfl⟩:x2=b3∧o2=o3:=by simpa using e3
    have hj:j<l2.length:=by
     have:=(List.getElem?_eq_some_iff.1 hu).1;rw [cellsK_length] at this;exact this
    have h5:=hc j hj;rw [Addr.add_lit,h5];simp [cellsK,hj] at hu;rw [← hu]
  have hgc:=fun W n o=>grownCap_ge W n o 5
  have hgm:=fun W n o hn=>grownCap_le_maxLen W n o 5 hn
  have hlen:∀ (W:World) (b:Nat) (c':Nat) (X:List Value),Blk W b (cellsK .u8 (l++l2)++X).toArray 5→l.length+l2.length≤c'→c'≤9223372036854775807→SlIn .u8 W (some ⟨b,0,none⟩) (l++l2) c':=fun W b c' X hB h1 h2=>⟨slAt_blk hB (fun j hj=>by
    rw [List.getElem?_toArray,List.getElem?_append_left (by rw [cellsK_length];exact hj)];unfold cellsK;rw [List.getElem?_map,List.getElem?_eq_getElem hj];rfl),by rw [List.length_append];exact h1,h2,fun h=>by cases h⟩
  rcases Option.eq_none_or_eq_some a with rfl|⟨y,rfl⟩
  ·rw [ha rfl] at hlen ⊢;have hr:=run_append_nil (P:=Tryz.prog) w 36 36 5 i z Tryz.underlying36 hi hz ⟨x2,o2,none⟩ l2.length c2 (cellsK .u8 l2) (by rw [cellsK_length,hs,Nat.mul_one]) (hn2 w rfl) hpos (by omega) (by rw [hb];omega);refine ⟨some ⟨w.heap.size,0,none⟩,_,_,by rw [List.length_nil,Nat.zero_add];exact hr,?_,((Below.refl _ _).drew).alloc (Nat.le_refl _) _,fun y hy=>by
    obtain rfl:=Option.some.inj hy;exact .inr ⟨Nat.le_refl _,by simp⟩⟩
   refine hlen _ _ _ (Builtin.zeroCells z.cells (grownCap w l2.length 0 5-l2.length)).toList ?_ (by rw [List.length_nil,Nat.zero_add];exact hgc _ _ _) (by have:=hgm w l2.length 0 (by unfold maxLen;omega);unfold maxLen at this;omega);rw [List.nil_append];have e:(cellsK IntKind.u8 l2++(Builtin.zeroCells z.cells (grownCap w l2.length 0 5-l2.length)).toList).toArray=(cellsK IntKind.u8 l2).toArray++Builtin.zeroCells z.cells (grownCap w l2.length 0 5-l2.length):=by apply Array.ext';simp
   rw [e];exact Blk.new w.drew _ _
  ·have hn1:∀ j u,(cellsK .u8 l)[j]?=some u→w.cell? (y.add j)=some u:=fun j u hu=>by
    have hj:j<l.length:=by
     have:=(List.getElem?_eq_some_iff.1 hu).1;rw [cellsK_length] at this;exact this
    rcases h.at_ with h3|⟨b3,o3,e3,hc⟩
    ·rw [h3] at hj;cases hj
    ·obtain rfl:=Option.some.inj e3;rw [Addr.add_lit,hc j hj];simp [cellsK,hj] at hu;rw [← hu]
   have hr:=run_append_grow (P:=Tryz.prog) w 36 36 5 i z Tryz.underlying36 hi hz y l.length l.length (cellsK .u8 l) (by rw [cellsK_length,hs,Nat.mul_one]) hn1 ⟨x2,o2,none⟩ l2.length c2 (cellsK .u8 l2) (by rw [cellsK_length,hs,Nat.mul_one]) (hn2 w rfl) (by omega) (by omega) (growslice_fits (by omega) (by rw [hb];omega));refine ⟨some ⟨w.heap.size,0,none⟩,_,_,hr,?_,((Below.refl _ _).drew).alloc (Nat.le_refl _) _,fun y hy=>by
    obtain rfl:=Option.some.inj hy;exact .inr ⟨Nat.le_refl _,by simp⟩⟩
   refine hlen _ _ _ (Builtin.zeroCells z.cells (grownCap w (l.length+l2.length) l.length 5-(l.length+l2.length))).toList ?_ (hgc _ _ _) (by have:=hgm w (l.length+l2.length) l.length (by unfold maxLen;omega);unfold maxLen at this;omega)
   have e:(cellsK IntKind.u8 (l++l2)++(Builtin.zeroCells z.cells (grownCap w (l.length+l2.length) l.length 5-(l.length+l2.length))).toList).toArray=(cellsK IntKind.u8 l).toArray++(cellsK IntKind.u8 l2).toArray++Builtin.zeroCells z.cells (grownCap w (l.length+l2.length) l.length 5-(l.length+l2.length)):=by apply Array.ext';simp [cellsK_append]
   rw [e];exact Blk.new w.drew _ _
def kit (e:TR.Item):Array Value:=#[.string (keyS e.1),.int .u64 (uv e.2)]
theorem kit_size (l:List TR.Item):∀ x∈l.map kit,x.size=2:=by
 intro x hx;obtain ⟨e,_,rfl⟩:=List.mem_map.1 hx;rfl
theorem kit_one (e:TR.Item):∀ v∈(kit e).toList,v.oneCell'=true:=by
 intro v hv;simp [kit] at hv
 rcases hv with rfl|rfl<;>rfl
theorem eI_item:EInfo Tryz.prog 149 2 24:=by unfold EInfo;kernel_rfl
def addF (L:List Nat)(f:Int→Int):Int→Int:=fun z=>if z∈L.map (fun o:Nat=>(o:Int)) then 1 else f z
theorem addF_nil (f:Int→Int):addF [] f=f:=by funext z;simp [addF]
theorem addF_app (L1 L2:List Nat)(f:Int→Int):addF L2 (addF L1 f)=addF (L1++L2) f:=by
 funext z
 unfold addF;rw [List.map_append];by_cases h2:z∈L2.map (fun o:Nat=>(o:Int))
 ·rw [if_pos h2,if_pos (List.mem_append_right _ h2)]
 ·rw [if_neg h2];by_cases h1:z∈L1.map (fun o:Nat=>(o:Int))
  ·rw [if_pos h1,if_pos (List.mem_append_left _ h1)]
  ·rw [if_neg h1,if_neg (fun h=>(List.mem_append.1 h).elim h1 h2)]
theorem addF_not {L:List Nat}{f:Int→Int}{o:Nat}(h:o∉L):addF L f (o:Int)=f (o:Int):=by
 unfold addF;rw [if_neg];intro hm;obtain ⟨y,hy,e⟩:=List.mem_map.1 hm;have:y=o:=by omega
 exact h (this▸hy)
structure Surv (w:World) (b p s x mb base n:Nat) (I:List TR.Item) (f:Int→Int) (a:Option Addr) (cap:Nat):Prop where
 sv:Blk w s #[.pointer (some ⟨x,0,none⟩),.slice a I.length cap,.map (some mb)] 199
 ix:Blk w x (IxC p b) 178
 own:w.ownsRow base 149 2 (.slice a I.length cap) I.length (flatR (I.map kit))
 map:MapI w mb n f
 base:base≤w.heap.size
 smb:s≠mb
 sx:s≠x
 mx:mb≠x
 as_:¬ BlkOf a s
 am:¬ BlkOf a mb
 ax:¬ BlkOf a x
def SurvF (s mb:Nat)(a:Option Addr)(k:Nat):Prop:=k=s∨k=mb∨BlkOf a k
section
variable {w w':World} {b p s x mb base n cap:Nat} {I:List TR.Item} {f:Int→Int} {a:Option Addr} {F:Nat→Prop}
theorem Surv.mod (h:Surv w b p s x mb base n I f a cap)(hm:Mod F w w')(hF:∀ k,SurvF s mb a k→¬ F k)(hx:¬ F x):Surv w' b p s x mb base n I f a cap :=
 ⟨h.sv.mod hm (hF s (.inl rfl)),h.ix.mod hm hx,ownsRow_turn h.own hm fun k hk=>hF k (.inr (.inr hk)),h.map.mod hm (hF mb (.inr (.inl rfl))),Nat.le_trans h.base hm.size,h.smb,h.sx,h.mx,h.as_,h.am,h.ax⟩
theorem Surv.next (h:Surv w b p s x mb base n I f a cap)(hb:Below w.heap.size w w'):Surv w' b p s x mb base n I f a cap:=h.mod (Mod.of (F:=fun _=>False) hb) (fun _ _ h=>h) (fun h=>h)
theorem Surv.lt (h:Surv w b p s x mb base n I f a cap):∀ k,SurvF s mb a k→k<w.heap.size:=by
 rintro k (rfl|rfl|hk)
 ·exact h.sv.lt
 ·exact h.map.lt
 ·exact (ownsRow_blk h.own k hk).2
theorem Surv.met (h:Surv w b p s x mb base n I f a cap)(hn:n<maxLen){o:Nat}(ho:o<1000000) :
  ∃ w',(Instr.mapUpdate 197 (.map (some mb)) (.int .i64 (o:Int)) (.int .i64 1)).run Tryz.prog w=.ok () w'∧Surv w' b p s x mb base (n+1) I (addF [o] f) a cap∧Mod (fun k=>k=mb) w w'∧w'.heap.size=w'.heap.size:=by
 obtain ⟨w',hr,hM,hg⟩:=h.map.put (t:=197) Tryz.underlying197 hn (x:=(o:Int)) (v:=1) (by unfold I64;omega) (by unfold I64;omega) (by decide);have hm:Mod (fun k=>k=mb) w w':=(mod_of_grown hg).mono fun k hk _=>(Option.some.inj hk).symm
 refine ⟨w',hr,⟨h.sv.mod hm (fun e=>h.smb e),h.ix.mod hm (fun e=>h.mx e.symm),ownsRow_turn h.own hm fun k hk e=>h.am (e▸hk),hM.congr fun z _=>?_,Nat.le_trans h.base hm.size,h.smb,h.sx,h.mx,h.as_,h.am,h.ax⟩,hm,rfl⟩;unfold addF;by_cases e:z=(o:Int)
 ·rw [if_pos e,if_pos (by simp [e])]
 ·rw [if_neg e,if_neg (by simp [e])]
theorem Surv.push (h:Surv w b p s x mb base n I f a cap)(hI:I.length≤1000)(e:TR.Item) :
  ∃ g c2 w2,(appendB #[142,142] 142 #[.slice a I.length cap,.slice (some ⟨w.heap.size,0,none⟩) 1 1]).run Tryz.prog (w.alloc (.cells (kit e) 149))=.ok (.slice (some ⟨g,0,none⟩) (I.length+1) c2) w2 ∧
   Blk w2 s #[.pointer (some ⟨x,0,none⟩),.slice a I.length cap,.map (some mb)] 199 ∧
   Surv (w2.setCell ⟨s,1,none⟩ (.slice (some ⟨g,0,none⟩) (I.length+1) c2)) b p s x mb base n (I++[e]) f (some ⟨g,0,none⟩) c2∧Turn w (SurvF s mb a) (w2.setCell ⟨s,1,none⟩ (.slice (some ⟨g,0,none⟩) (I.length+1) c2)) (SurvF s mb (some ⟨g,0,none⟩)):=by
 obtain ⟨g,c2,w2,hr,ho,hg1,hg2,hsz,ht⟩:=push_own (P:=Tryz.prog) (t:=142) (ty:=142) (cs:=kit e) Tryz.underlying142 eI_item (by decide) rfl (kit_one e) (by decide) (by omega) h.base h.own;have hs:=h.sv.lt;have hx:=h.ix.lt;have hmb:=h.map.lt;have hgb:∀ k,BlkOf (some ⟨g,0,none⟩) k→g=k:=fun k ⟨y,hy,hk⟩=>by obtain rfl:=Option.some.inj hy;exact hk
 have hgn:∀ k,k<w.heap.size→¬ BlkOf a k→g≠k:=fun k h1 h2 e=>by
  rcases ht.new g rfl with h3|h3
  ·rw [e] at h3;exact h2 h3
  ·omega
 have hs2:Blk w2 s _ _:=h.sv.mod ht.mod h.as_;have ms:Mod (fun k=>k=s) w2 (w2.setCell ⟨s,1,none⟩ (.slice (some ⟨g,0,none⟩) (I.length+1) c2)):=(Mod.refl (fun k=>k=s) w2).setCell (.inl rfl) _;refine ⟨g,c2,w2,hr,hs2,⟨?_,(h.ix.mod ht.mod h.ax).mod ms (fun e=>h.sx e.symm),?_,(h.map.mod ht.mod h.am).mod ms (fun e=>h.smb e.symm),?_,h.smb,h.sx,h.mx,fun hk=>hgn s hs h.as_ (hgb s hk),fun hk=>hgn mb hmb h.am (hgb mb hk),fun hk=>hgn x hx h.ax (hgb x hk)⟩,?_⟩
 ·have:=hs2.set 1 (.slice (some ⟨g,0,none⟩) (I.length+1) c2);rw [List.length_append,List.length_singleton];exact this
 ·rw [List.length_append,List.length_singleton,List.map_append,List.map_singleton,flatR_append,flatR_one];exact ownsRow_turn ho ms fun k hk e=>hgn s hs h.as_ ((hgb k hk).trans e)
 ·have:=ms.size;have:=h.base;omega
 ·refine ⟨(ht.mod.mono (G:=SurvF s mb a) fun k hk _=>.inr (.inr hk)).trans ms fun k hk _=>.inl hk,fun k hk=>?_⟩
  rcases hk with hk|hk|hk
  ·exact .inl (.inl hk)
  ·exact .inl (.inr (.inl hk))
  ·obtain rfl:=hgb k hk
   rcases ht.new g rfl with h3|h3
   ·exact .inl (.inr (.inr h3))
   ·exact .inr h3
end
end
section
section
open Go Go.RowKit
open TR
section
variable {w w':World} {m b p s x mb base cap:Nat} {V:PV} {G G' F:Nat→Prop}
theorem ksAt {N:Nat→NdV→Prop}{k:Ks}:∀ {l r:Ks} {x:Nb} {t:Tr},k=l.app (.cons x t r)→k.At N→t.At N:=fun {l r x t} e h=>by
 rw [e,app_at,Ks.At] at h;exact h.2.1
theorem ks_assoc (l:Ks)(y:Nb)(kt:Tr)(r:Ks):(l.app (.cons y kt .nil)).app r=l.app (.cons y kt r):=by
 induction l using Ks.rec (motive_1:=fun _=>True) with
 | nd=>trivial
 | nil=>rfl
 | cons x t l _ ih=>show Ks.cons x t _=Ks.cons x t _;rw [ih]
mutual
theorem titems_le (a:List Nb):∀ t:Tr,(t.items a).length≤t.nodes.length
 | .nd o p v k=>by
  rw [items_nd,nodes_nd,List.length_append,List.length_cons];have h1:(own (a++p) v).length≤1:=by unfold own;split<;>simp
  have:=kitems_le (a++p) k;omega
theorem kitems_le (a:List Nb):∀ k:Ks,(k.items a).length≤k.nodes.length
 | .nil=>by rw [Ks.items];exact Nat.zero_le _
 | .cons x t r=>by
  rw [Ks.items,Ks.nodes,List.length_append,List.length_append];have:=titems_le (a++[x]) t;have:=kitems_le a r;omega
end
set_option maxHeartbeats 4000000
theorem visit_calls (hm:m=6∨m=24):∀ (N:Nat) (t:Tr) (ah:List Nb) (a8:Option Addr) (c8:Nat) (I:List TR.Item) (f:Int→Int) (n:Nat) (a:Option Addr) (cap:Nat) (w0:World),t.nodes.length≤N→Surv w0 b p s x mb base n I f a cap→Pd w0 m V b p G→Rest m V→(∀ k,G k→¬ SurvF s mb a k) →
  t.At (NAt m V)→t.Ok ah→t.nodes.Nodup→(∀ o∈t.nodes,f (o:Int)=0)→SlIn .u8 w0 a8 ah c8→SepA w0 (SurvF s mb a) a8→(a8=none→ah=[])→(∀ y∈ah,y.toNat<16)→I.length+t.nodes.length≤1000→n+t.nodes.length≤100000 →
  Ret Tryz.prog 141 #[.pointer (some ⟨s,0,none⟩),.int .u64 (uv (nameW t.off)),.slice a8 ah.length c8] w0 fun v w'=>v=.int .i64 0∧∃ a' cap',Surv w' b p s x mb base (n+t.nodes.length) (I++t.items ah) (addF t.nodes f) a' cap'∧Turn w0 (SurvF s mb a) w' (SurvF s mb a'):=by
 intro N
 induction N using Nat.strongRecOn with
 | ind N ih =>
 intro t ah a8 c8 I f n a cap w0 hN hS hPd hr hG hA hO hnd hf h8 hs8 h80 h16 hI hn;obtain ⟨o,pr,vl,ks⟩:=t;have bel0:=Below.refl w0.heap.size w0;have zf:=sz hm;have hNd:=(at_nd.1 hA).1;obtain ⟨n1,n2,n3,n4⟩:=hNd.in_ hm;obtain ⟨e1,e2⟩:=name_int (o:=o) (by omega);obtain ⟨nv,hnv⟩:∃ nv:NdV,nv=⟨pr,vl,ks.labels,ks.offs⟩:=⟨_,rfl⟩;rw [← hnv] at hNd n3 n4;have hok:=ok_nd.1 hO;have hnodes:=nodes_nd o pr vl ks;rw [show (Tr.nd o pr vl ks).off=o from rfl];have hs0:=hS.sv.cell 0;have hs1:=hS.sv.cell 1
 have hs2:=hS.sv.cell 2;simp at hs0 hs1 hs2;have hle8:=h8.le;have hmx8:=h8.max;refine ret_of (args:=[_,_,_]) _ Tryz.func141 rfl Tryz.ntmps141 (by simp) ?_;simp -implicitDefEqProofs [go_sem,hs0];refine callE_of (idxRead_calls x o nv w0 hPd hr hm hS.ix hNd) ?_;rintro v w1 ⟨q,rfl,hq,hqn,b1⟩;have bel1:=bel0.trans b1;have hS1:=hS.next b1
 have st1:=stNew (P:=Tryz.prog) (t:=234) (cs:=q.cs nv) (C0:=#[.slice none 0 0,.int .u64 0,.slice none 0 0,.slice none 0 0]) ndI rfl (q.cs_one nv);have hnode:=Blk.new w1 (q.cs nv) 234;have bA:=(Below.refl w1.heap.size w1).alloc (Nat.le_refl _) (.cells (q.cs nv) 234);have hS2:=hS1.next bA
 have sA:(w1.alloc (.cells (q.cs nv) 234)).heap.size=w1.heap.size+1:=by simp
 have b12:=btr b1 bA;have c2:=hS2.sv.cell 2;simp at c2;have ho1:o<1000000:=by omega
 have hoI:I64 (o:Int):=by unfold I64;omega
 have hlk:=hS2.map.look (t:=197) Tryz.underlying197 hoI;have hfo:f (o:Int)=0:=hf o (by rw [hnodes];exact List.mem_cons_self);rw [hfo] at hlk;obtain ⟨w3,hr3,hS3,m3,-⟩:=hS2.met (by unfold maxLen;omega) ho1;have c32:=hS3.sv.cell 2;simp at c32;have hlk3:=hS3.map.look (t:=197) Tryz.underlying197 hoI;have hF1:addF [o] f (o:Int)=1:=by unfold addF;rw [if_pos (by simp)]
 rw [hF1] at hlk3;have i1:=IntWalk.i64_in 1 (by omega);simp -implicitDefEqProofs [go_sem,e1,↓st1,c2,hlk,i1,hr3];have hnode3:=hnode.mod m3 (fun e=>by have:=hS.map.lt;have:=b1.size;omega);have t3:Turn w0 (SurvF s mb a) w3 (SurvF s mb a):=⟨(Mod.of b12).trans m3 (fun k hk _=>.inr (.inl hk)),fun k hk=>.inl hk⟩;have h83:=h8.turn hs8 t3;have hs83:=hs8.turn t3;have hq2:=hq.next bA
 have hqS:NdS w3 (SurvF s mb a) q nv:=by
  have hqs:NdS (w1.alloc (.cells (q.cs nv) 234)) (SurvF s mb a) q nv:=⟨hq2,fun y hy=>⟨by have:=hqn y.block (.inl ⟨y,hy,rfl⟩);omega,fun hf=>by have:=hqn y.block (.inl ⟨y,hy,rfl⟩);have:=hS.lt _ hf;omega⟩,
   fun y hy=>⟨by have:=hqn y.block (.inr (.inl ⟨y,hy,rfl⟩));omega,fun hf=>by have:=hqn y.block (.inr (.inl ⟨y,hy,rfl⟩));have:=hS.lt _ hf;omega⟩,
   fun y hy=>⟨by have:=hqn y.block (.inr (.inr ⟨y,hy,rfl⟩));omega,fun hf=>by have:=hqn y.block (.inr (.inr ⟨y,hy,rfl⟩));have:=hS.lt _ hf;omega⟩⟩
  exact hqs.turn ⟨m3.mono fun k hk _=>.inr (.inl hk),fun k hk=>.inl hk⟩
 have hpre:=hqS.in_.pre;have hpn:nv.pre=pr:=by rw [hnv]
 rw [hpn] at hpre;have hN0:(q.cs nv)[0]?=some (.slice q.a1 pr.length q.c1):=by rw [← hpn];rfl
 have hN1:(q.cs nv)[1]?=some (.int .u64 (uv vl)):=by rw [hnv];rfl
 have hN2:(q.cs nv)[2]?=some (.slice q.a2 nv.labels.length q.c2):=rfl;have hN3:(q.cs nv)[3]?=some (.slice q.a3 nv.kids.length q.c3):=rfl;refine drawE_mix [.pure 0,.pure 1,.pure 2,.pure 3,.pure 4,.pure 6,.take 5,.run 7 [5],.run 8 [],.pure 9] mixed (by decide +kernel) (by simp only [wo];rfl) ?_;have bd:=(Below.refl w3.heap.size w3).drew;have t4:Turn w0 (SurvF s mb a) (World.drew w3) (SurvF s mb a):=t3.trans (Turn.of bd);generalize World.drew w3=w4 at *;have hS4:=hS3.next bd
 have hnode4:=hnode3.next bd
 have h84:=h83.next bd
 have hs84:=hs83.next bd
 have hqS4:=hqS.next bd
 have hpre4:=hpre.next bd
 have hlen32:(ah++pr).length≤32:=hok.2.2.1;rw [List.length_append] at hlen32;obtain ⟨a10,c10,w5,hr5,h105,b5,hnew5⟩:=append_full h84 hpre4 (by omega) h80;have hwl:(ah.length:Int)≤c8:=by omega
 have hwl2:ah.length≤c8:=hle8;have hlen':((ah.length:Int)+(pr.length:Int))=((ah.length+pr.length:Nat):Int):=by omega
 have hc1:¬ (32:Int)<((ah.length+pr.length:Nat):Int):=by omega
 have hS5:=hS4.next b5
 have c52:=hS5.sv.cell 2;simp at c52;have hnode5:=hnode4.next b5
 have hlk5:=hS5.map.look (t:=197) Tryz.underlying197 hoI;rw [hF1] at hlk5;have t5:=t4.trans (Turn.of b5);simp -implicitDefEqProofs [go_sem,hwl,hwl2];refine onTake_of (fun _=>True) (.slice a8 ah.length ah.length) trivial (fun w' _=>by
  rcases Option.eq_none_or_eq_some a8 with e|⟨y,e⟩
  ·have e2:=h80 e;have e3:=h8.nil e;subst e;subst e2;subst e3;simp -implicitDefEqProofs [go_sem]
  ·subst e;simp -implicitDefEqProofs [go_sem,hwl,hwl2,addr_zero]) ?_
 have hc2:¬ (32:Int)<(ah.length:Int)+(pr.length:Int):=by omega
 have hall:∀ y∈ah++pr,y.toNat<16:=fun y hy=>by
  rcases List.mem_append.1 hy with hy|hy
  ·exact h16 y hy
  ·exact hok.2.1 y hy
 have hs105:SepA w5 (SurvF s mb a) a10:=fun y hy=>by
  rcases hnew5 y hy with ⟨y0,h1,h2⟩|⟨h1,h2⟩
  ·have h3:=hs84 y0 h1;rw [h2] at h3;exact ⟨by have:=b5.size;omega,h3.2⟩
  ·exact ⟨h2,fun hf=>by have:=hS4.lt _ hf;omega⟩
 have hqS5:=hqS4.next b5
 have hnF:∀ a',(∀ k,BlkOf a' k→BlkOf a k∨w0.heap.size≤k∧k≠w1.heap.size)→¬ SurvF s mb a' w1.heap.size:=fun a' ha' hf=>by
  have s1:=b1.size
  rcases hf with hf|hf|hf
  ·have:=hS.sv.lt;omega
  ·have:=hS.map.lt;omega
  ·rcases ha' _ hf with h|h
   ·have:=(ownsRow_blk hS.own _ h).2;omega
   ·exact h.2 rfl
 have hnF1:¬ SurvF s mb a w1.heap.size:=hnF a fun k hk=>.inl hk
 by_cases hv:vl=0#64
 ·have hv':(vl != 0#64)=false:=by simp [hv]
  simp -implicitDefEqProofs [go_sem,hnode4.cell,hN0,hr5,c52,hlk5,hc1,hc2,hnode5.cell,hN1,hv',hN3];have hown:own (ah++pr) vl=[]:=by rw [hv,own_zero]
  have hSL:Surv w5 b p s x mb base (n+1) (I++own (ah++pr) vl) (addF [o] f) a cap:=by rw [hown,List.append_nil];exact hS5
  have tL:=t5;have hnodeL:=hnode5;have hqL:=hqS5;have h10L:=h105;have hs10L:=hs105;have hnFL:=hnF1;obtain ⟨wL,hwL⟩:∃ wL,wL=w5:=⟨_,rfl⟩;obtain ⟨aL,haL⟩:∃ aL,aL=a:=⟨_,rfl⟩;obtain ⟨capL,hcapL⟩:∃ capL,capL=cap:=⟨_,rfl⟩;have tL:Turn w0 (SurvF s mb a) wL (SurvF s mb aL):=by rw [hwL,haL];exact tL
  rw [← hwL] at hSL hnodeL hqL h10L hs10L ⊢;rw [← haL] at hSL hqL hs10L hnFL;rw [← hcapL] at hSL;refine wpE_loop (fun e' w'=>∃ (l r:Ks) (a':Option Addr) (cap':Nat),ks=l.app r∧e' 0=.pointer (some ⟨s,0,none⟩)∧e' 7=.pointer (some ⟨w1.heap.size,0,none⟩)∧e' 10=.slice a10 (ah.length+pr.length) c10∧e' 82=.slice q.a3 nv.kids.length q.c3∧e' 83=.int .i64 (nv.kids.length:Int)∧e' 84=.int .i64 (l.len:Int) ∧
   Surv w' b p s x mb base (n+1+l.nodes.length) (I++own (ah++pr) vl++l.items (ah++pr)) (addF l.nodes (addF [o] f)) a' cap'∧Turn wL (SurvF s mb aL) w' (SurvF s mb a')) (fun e' _=>nv.kids.length-(intOf (e' 84)).toNat) ?_ ?_
  ·refine ⟨.nil,ks,aL,capL,rfl,?_⟩;simp -implicitDefEqProofs [go_sem,Ks.len,Ks.nodes,Ks.items,addF_nil];exact ⟨hSL,Turn.of (Below.refl _ _)⟩
  ·rintro e' w9 ⟨l,r,a',cap',hlr,g0,g7,g10,g82,g83,g84,hS9,t9⟩;have hnode9:=hnodeL.mod t9.mod hnFL;have hq9:=hqL.turn t9;have h109:=h10L.turn hs10L t9;have hs109:=hs10L.turn t9;have hkl:nv.kids.length=ks.len:=by rw [hnv];exact offs_len ks
   have hll:nv.labels.length=ks.len:=by rw [hnv];exact labels_len ks
   have hk16:ks.len≤16:=by rw [← hkl];exact hNd.right.many16
   cases r with
   | nil =>
    rw [app_nil] at hlr;subst hlr;rw [hkl] at g82 g83;simp -implicitDefEqProofs [go_sem,g0,g7,g10,g82,g83,g84];refine body_tmp 6 rfl ?_;simp -implicitDefEqProofs [go_sem];have e1:n+1+ks.nodes.length=n+(Tr.nd o pr vl ks).nodes.length:=by rw [hnodes,List.length_cons];omega
    have e2:I++own (ah++pr) vl++ks.items (ah++pr)=I++(Tr.nd o pr vl ks).items ah:=by rw [items_nd,List.append_assoc]
    have e3:addF ks.nodes (addF [o] f)=addF (Tr.nd o pr vl ks).nodes f:=by rw [addF_app,hnodes];rfl
    rw [e1,e2,e3] at hS9;exact ⟨a',⟨cap',hS9⟩,tL.trans t9⟩
   | cons y kt r' =>
    have hlen:ks.len=l.len+(r'.len+1):=by rw [hlr,app_len];rfl
    have hlt:l.len<nv.kids.length:=by omega
    have hlt':(l.len:Int)<(nv.kids.length:Int):=by omega
    have hltl:l.len<nv.labels.length:=by omega
    have hky:nv.kids[l.len]=nameW kt.off:=by
     have h1:nv.kids=l.offs++nameW kt.off::r'.offs:=by rw [hnv];show ks.offs=_;rw [hlr,app_offs];rfl
     have h2:=offs_len l;simp only [h1];rw [List.getElem_append_right (by omega)];simp [h2]
    have hly:nv.labels[l.len]=y:=by
     have h1:nv.labels=l.labels++y::r'.labels:=by rw [hnv];show ks.labels=_;rw [hlr,app_labels];rfl
     have h2:=labels_len l;simp only [h1];rw [List.getElem_append_right (by omega)];simp [h2]
    obtain ⟨kb,ko,hka,hkc⟩:=hq9.in_.kid.at_.cell hlt;obtain ⟨lb,lo,hla,hlc⟩:=hq9.in_.lab.at_.cell hltl;rw [hky] at hkc;rw [hly] at hlc;rw [hka] at g82;simp -implicitDefEqProofs [go_sem,g0,g7,g10,g82,g83,g84,hlt,hlt',hkc];refine drawE_mix [.pure 0,.pure 1,.pure 2,.pure 3,.pure 4,.pure 5,.pure 6,.pure 8,.pure 10,.take 7,.run 9 [7],.pure 11,.run 12 [7],.run 13 [7],.run 14 [],.run 15 [],.pure 16] mixed (by decide +kernel) (by simp only [wo];rfl) ?_;have bd9:=(Below.refl w9.heap.size w9).drew
    generalize World.drew w9=w10 at *;have hS10:=hS9.next bd9
    have hnode10:=hnode9.next bd9
    have h1010:=h109.next bd9
    have hs1010:=hs109.next bd9
    have hlc10:=hlc;obtain ⟨lb',lo',hla',hlc'⟩:=(hq9.next bd9).in_.lab.at_.cell hltl;rw [hla] at hla';obtain ⟨rfl,rfl⟩:lb=lb'∧lo=lo':=by simpa using hla'
    rw [hly] at hlc';have hN2':(q.cs nv)[2]?=some (.slice (some ⟨lb,lo,none⟩) nv.labels.length q.c2):=by rw [hN2,hla]
    have hltl':(l.len:Int)<(nv.labels.length:Int):=by omega
    have hl10:(ah.length:Int)+(pr.length:Int)≤c10:=by have:=h1010.le;rw [List.length_append] at this;omega
    have hl10':ah.length+pr.length≤c10:=by have:=h1010.le;rw [List.length_append] at this;omega
    have bA10:=(Below.refl w10.heap.size w10).alloc (Nat.le_refl _) (.cells #[.int .u8 (uv y)] 5);have hB10:=Blk.new w10 #[.int .u8 (uv y)] 5;have hin1:SlIn .u8 (w10.alloc (.cells #[.int .u8 (uv y)] 5)) (some ⟨w10.heap.size,0,none⟩) [y] 1:=⟨slAt_blk hB10 (fun i hi=>by
     have:i=0:=by simpa using hi
     subst this;rfl),by simp,by decide,fun h=>by cases h⟩
    obtain ⟨a11,c11,w11,hr11,h11,b11,hnew11⟩:=append_full (h1010.next bA10) hin1 (by rw [List.length_append,List.length_singleton];omega) (fun e=>List.eq_nil_of_length_eq_zero (by have:=h109.nil e;have:=h109.le;omega));rw [List.length_append,List.length_singleton] at hr11;have hp0:(0:Int)≤(ah.length:Int)+(pr.length:Int):=by omega
    have htn:((ah.length:Int)+(pr.length:Int)).toNat=ah.length+pr.length:=by omega
    have hmx:max ((ah.length:Int)+(pr.length:Int)) 0=(ah.length:Int)+(pr.length:Int):=by omega
    simp -implicitDefEqProofs [go_sem,g0,g7,g10,hl10,hl10'];refine onTake_of (fun _=>True) (.slice a10 (ah.length+pr.length) (ah.length+pr.length)) trivial (fun w' _=>by
     rcases Option.eq_none_or_eq_some a10 with e|⟨z,e⟩
     ·have e3:=h109.nil e;subst e3;have e4:ah.length=0∧pr.length=0:=by omega
      simp -implicitDefEqProofs [go_sem,e,e4.1,e4.2]
     ·subst e;simp -implicitDefEqProofs [go_sem,hl10,hl10',addr_zero,hp0,htn,hmx]) ?_
    simp -implicitDefEqProofs [go_sem,g0,g7,g10,hnode10.cell,hN2',hltl,hltl',hlc',hr11];have b911:Below w9.heap.size w9 w11:=(btr bd9 bA10).trans (b11.mono (by have:=bd9.size;have:=bA10.size;omega));have b1011:=btr bA10 b11;have hS11:=hS10.next b1011
    have t11:=(tL.trans t9).trans (Turn.of b911);have hPd11:=hPd.mod t11.mod hG;have hG11:∀ k,G k→¬ SurvF s mb a' k:=fun k hk=>out_turn (hG k hk) (hPd.lt k hk) t11
    have hkn:ks.nodes=l.nodes++(kt.nodes++r'.nodes):=by rw [hlr,app_nodes,Ks.nodes]
    rw [hnodes,hkn] at hnd;have hd1:=List.nodup_cons.1 hnd;have hd2:=List.nodup_append.1 hd1.2;have hd3:=List.nodup_append.1 hd2.2.1;have hks:=(at_nd.1 hA).2;have hkA:=ksAt hlr hks;have hkO:y.toNat<16∧kt.Ok (ah++pr++[y]):=by
     have h1:=hok.2.2.2.2.2;rw [hlr,app_ok,Ks.Ok] at h1;exact ⟨h1.2.1,h1.2.2.1⟩
    rw [hnodes,hkn,List.length_cons,List.length_append,List.length_append] at hI hn hN;have hIl:(I++own (ah++pr) vl++l.items (ah++pr)).length+kt.nodes.length≤1000:=by
     have h1:(own (ah++pr) vl).length≤1:=by unfold own;split<;>simp
     have h2:=kitems_le (ah++pr) l;rw [List.length_append,List.length_append];omega
    have hs11:SepA w11 (SurvF s mb a') a11:=fun z hz=>by
     rcases hnew11 z hz with ⟨z0,h1,h2⟩|⟨h1,h2⟩
     ·have h3:=hs1010 z0 h1;rw [h2] at h3;exact ⟨by have:=b1011.size;omega,h3.2⟩
     ·exact ⟨h2,fun hf=>by have:=hS10.lt _ hf;have:=bA10.size;omega⟩
    have hih:=ih kt.nodes.length (by omega) kt (ah++pr++[y]) a11 c11 (I++own (ah++pr) vl++l.items (ah++pr)) (addF l.nodes (addF [o] f)) (n+1+l.nodes.length) a' cap' w11 (Nat.le_refl _) hS11 hPd11 hr hG11 hkA hkO.2 hd3.1
     (fun z hz=>by
      rw [addF_not (fun h=>hd2.2.2 z h z (List.mem_append_left _ hz) rfl),addF_not (fun h=>by
       rw [List.mem_singleton] at h;exact hd1.1 (h▸List.mem_append_right _ (List.mem_append_left _ hz)))]
      exact hf z (by rw [hnodes,hkn];exact List.mem_cons_of_mem _ (List.mem_append_right _ (List.mem_append_left _ hz))))
     h11 hs11 (fun e=>List.eq_nil_of_length_eq_zero (by have:=h11.nil e;have:=h11.le;omega)) (fun z hz=>by
      rcases List.mem_append.1 hz with hz|hz
      ·exact hall z hz
      ·rw [List.mem_singleton] at hz;rw [hz];exact hkO.1) hIl (by omega)
    rw [List.length_append,List.length_append,List.length_singleton] at hih;refine callE_of hih ?_;rintro v w12 ⟨rfl,a12,cap12,hS12,t12⟩;simp -implicitDefEqProofs [go_sem,g0,g7,g10,g82,g83,g84];have i2:=IntWalk.i64_in ((l.len:Int)+1) (by omega);refine goE_round ⟨l.app (.cons y kt .nil),r',a12,cap12,?_,?_⟩ ?_
    ·rw [hlr];exact (ks_assoc l y kt r').symm
    ·rw [app_len,app_nodes,app_items,Ks.len,Ks.len,Ks.nodes,Ks.nodes,Ks.items,Ks.items,List.append_nil,List.append_nil];simp -implicitDefEqProofs [go_sem,g0,g7,g10,g82,g83,g84,i2];refine ⟨hka.symm▸rfl,?_,?_⟩
     ·simp only [List.append_assoc] at hS12;rw [addF_app,Nat.add_assoc (n+1)] at hS12;exact hS12
     ·exact t9.trans ((Turn.of b911).trans t12)
    ·simp -implicitDefEqProofs [go_sem,g84,intOf,i2];omega
 ·have hv':(vl != 0#64)=true:=by simpa using hv
  have hev:=hok.2.2.2.1 hv;simp -implicitDefEqProofs [go_sem,hnode4.cell,hN0,hr5,c52,hlk5,hc1,hc2,hnode5.cell,hN1,hv',hN3];have hkc:=nibKey_calls a10 (ah++pr) c10 w5 h105 (by rw [List.length_append];omega) hev hall;rw [List.length_append] at hkc;refine callE_of hkc ?_;rintro v w6 ⟨rfl,b6⟩;simp -implicitDefEqProofs [go_sem]
  refine drawE_mix [.pure 0,.pure 1,.pure 2,.pure 3,.pure 5,.pure 6,.take 4,.run 7 [4],.run 8 [4],.run 9 [4],.run 10 [],.pure 11,.pure 12,.run 13 []] mixed (by decide +kernel) (by simp only [wo];rfl) ?_;have b57:Below w5.heap.size w5 (World.drew w6):=b6.drew;generalize World.drew w6=w7 at *;have hS7:=hS5.next b57
  have hnode7:=hnode5.next b57
  obtain ⟨g,c2',w8,hr8,hsv8,hS8,t8⟩:=hS7.push (by omega) (ah++pr,vl);have bA7:=(Below.refl w7.heap.size w7).alloc (Nat.le_refl _) (.cells (kit (ah++pr,vl)) 149);have hSA:=hS7.next bA7
  obtain ⟨S,hSd⟩:∃ S:World→Prop,S=fun w'=>Blk w' s #[.pointer (some ⟨x,0,none⟩),.slice a I.length cap,.map (some mb)] 199:=⟨_,rfl⟩
  have hS7':S w7:=by rw [hSd];exact hS7.sv
  have hSA':S (w7.alloc (.cells (kit (ah++pr,vl)) 149)):=by rw [hSd];exact hSA.sv
  have hSc:∀ w',S w'→w'.cell? ⟨s,1,none⟩=some (.slice a I.length cap):=fun w' h=>by rw [hSd] at h;exact h.cell 1
  have hkit:kit (ah++pr,vl)=#[.string (keyS (ah++pr)),.int .u64 (uv vl)]:=rfl;rw [hkit] at hr8 hSA';simp -implicitDefEqProofs [go_sem];refine onTake_of S (.slice a I.length cap) hS7' (fun w' hw=>by simp -implicitDefEqProofs [go_sem,hSc w' hw]) ?_;have hown:own (ah++pr) vl=[(ah++pr,vl)]:=own_pos _ hv;have hSL:=hS8;rw [← hown] at hSL;have s15:w1.heap.size<w5.heap.size:=hnode5.lt;have t57:Turn w5 (SurvF s mb a) w7 (SurvF s mb a):=Turn.of b57;have t58:=t57.trans t8;have tL:=t5.trans t58
  have hgF:¬ BlkOf (some ⟨g,0,none⟩) w1.heap.size:=fun ⟨y,hy,hk⟩=>by
   obtain rfl:=Option.some.inj hy;have hk:g=w1.heap.size:=hk
   rcases t58.new g (.inr (.inr ⟨_,rfl,rfl⟩)) with h|h
   ·exact hnF1 (hk▸h)
   ·omega
  have hnFL:¬ SurvF s mb (some ⟨g,0,none⟩) w1.heap.size:=fun hf=>by
   rcases hf with hf|hf|hf
   ·exact hnF1 (.inl hf)
   ·exact hnF1 (.inr (.inl hf))
   ·exact hgF hf
  have hnodeL:=hnode5.mod t58.mod hnF1;have hqL:=hqS5.turn t58;have h10L:=h105.turn hs105 t58;have hs10L:=hs105.turn t58;simp -implicitDefEqProofs [go_sem,hnode7.cell,hN1,hr8,hsv8.cell,hsv8.thaw,hnodeL.cell,hN3];refine ⟨.inr hSA',?_⟩;generalize World.setCell w8 _ _=wL at *;obtain ⟨aL,haL⟩:∃ aL:Option Addr,aL=some ⟨g,0,none⟩:=⟨_,rfl⟩;obtain ⟨capL,hcapL⟩:∃ capL,capL=c2':=⟨_,rfl⟩;rw [← haL] at hSL hqL hs10L hnFL tL;rw [← hcapL] at hSL
  refine wpE_loop (fun e' w'=>∃ (l r:Ks) (a':Option Addr) (cap':Nat),ks=l.app r∧e' 0=.pointer (some ⟨s,0,none⟩)∧e' 7=.pointer (some ⟨w1.heap.size,0,none⟩)∧e' 10=.slice a10 (ah.length+pr.length) c10∧e' 82=.slice q.a3 nv.kids.length q.c3∧e' 83=.int .i64 (nv.kids.length:Int)∧e' 84=.int .i64 (l.len:Int) ∧
   Surv w' b p s x mb base (n+1+l.nodes.length) (I++own (ah++pr) vl++l.items (ah++pr)) (addF l.nodes (addF [o] f)) a' cap'∧Turn wL (SurvF s mb aL) w' (SurvF s mb a')) (fun e' _=>nv.kids.length-(intOf (e' 84)).toNat) ?_ ?_
  ·refine ⟨.nil,ks,aL,capL,rfl,?_⟩;simp -implicitDefEqProofs [go_sem,Ks.len,Ks.nodes,Ks.items,addF_nil];exact ⟨hSL,Turn.of (Below.refl _ _)⟩
  ·rintro e' w9 ⟨l,r,a',cap',hlr,g0,g7,g10,g82,g83,g84,hS9,t9⟩;have hnode9:=hnodeL.mod t9.mod hnFL;have hq9:=hqL.turn t9;have h109:=h10L.turn hs10L t9;have hs109:=hs10L.turn t9;have hkl:nv.kids.length=ks.len:=by rw [hnv];exact offs_len ks
   have hll:nv.labels.length=ks.len:=by rw [hnv];exact labels_len ks
   have hk16:ks.len≤16:=by rw [← hkl];exact hNd.right.many16
   cases r with
   | nil =>
    rw [app_nil] at hlr;subst hlr;rw [hkl] at g82 g83;simp -implicitDefEqProofs [go_sem,g0,g7,g10,g82,g83,g84];refine body_tmp 6 rfl ?_;simp -implicitDefEqProofs [go_sem];have e1:n+1+ks.nodes.length=n+(Tr.nd o pr vl ks).nodes.length:=by rw [hnodes,List.length_cons];omega
    have e2:I++own (ah++pr) vl++ks.items (ah++pr)=I++(Tr.nd o pr vl ks).items ah:=by rw [items_nd,List.append_assoc]
    have e3:addF ks.nodes (addF [o] f)=addF (Tr.nd o pr vl ks).nodes f:=by rw [addF_app,hnodes];rfl
    rw [e1,e2,e3] at hS9;exact ⟨a',⟨cap',hS9⟩,tL.trans t9⟩
   | cons y kt r' =>
    have hlen:ks.len=l.len+(r'.len+1):=by rw [hlr,app_len];rfl
    have hlt:l.len<nv.kids.length:=by omega
    have hlt':(l.len:Int)<(nv.kids.length:Int):=by omega
    have hltl:l.len<nv.labels.length:=by omega
    have hky:nv.kids[l.len]=nameW kt.off:=by
     have h1:nv.kids=l.offs++nameW kt.off::r'.offs:=by rw [hnv];show ks.offs=_;rw [hlr,app_offs];rfl
     have h2:=offs_len l;simp only [h1];rw [List.getElem_append_right (by omega)];simp [h2]
    have hly:nv.labels[l.len]=y:=by
     have h1:nv.labels=l.labels++y::r'.labels:=by rw [hnv];show ks.labels=_;rw [hlr,app_labels];rfl
     have h2:=labels_len l;simp only [h1];rw [List.getElem_append_right (by omega)];simp [h2]
    obtain ⟨kb,ko,hka,hkc⟩:=hq9.in_.kid.at_.cell hlt;obtain ⟨lb,lo,hla,hlc⟩:=hq9.in_.lab.at_.cell hltl;rw [hky] at hkc;rw [hly] at hlc;rw [hka] at g82;simp -implicitDefEqProofs [go_sem,g0,g7,g10,g82,g83,g84,hlt,hlt',hkc];refine drawE_mix [.pure 0,.pure 1,.pure 2,.pure 3,.pure 4,.pure 5,.pure 6,.pure 8,.pure 10,.take 7,.run 9 [7],.pure 11,.run 12 [7],.run 13 [7],.run 14 [],.run 15 [],.pure 16] mixed (by decide +kernel) (by simp only [wo];rfl) ?_;have bd9:=(Below.refl w9.heap.size w9).drew
    generalize World.drew w9=w10 at *;have hS10:=hS9.next bd9
    have hnode10:=hnode9.next bd9
    have h1010:=h109.next bd9
    have hs1010:=hs109.next bd9
    have hlc10:=hlc;obtain ⟨lb',lo',hla',hlc'⟩:=(hq9.next bd9).in_.lab.at_.cell hltl;rw [hla] at hla';obtain ⟨rfl,rfl⟩:lb=lb'∧lo=lo':=by simpa using hla'
    rw [hly] at hlc';have hN2':(q.cs nv)[2]?=some (.slice (some ⟨lb,lo,none⟩) nv.labels.length q.c2):=by rw [hN2,hla]
    have hltl':(l.len:Int)<(nv.labels.length:Int):=by omega
    have hl10:(ah.length:Int)+(pr.length:Int)≤c10:=by have:=h1010.le;rw [List.length_append] at this;omega
    have hl10':ah.length+pr.length≤c10:=by have:=h1010.le;rw [List.length_append] at this;omega
    have bA10:=(Below.refl w10.heap.size w10).alloc (Nat.le_refl _) (.cells #[.int .u8 (uv y)] 5);have hB10:=Blk.new w10 #[.int .u8 (uv y)] 5;have hin1:SlIn .u8 (w10.alloc (.cells #[.int .u8 (uv y)] 5)) (some ⟨w10.heap.size,0,none⟩) [y] 1:=⟨slAt_blk hB10 (fun i hi=>by
     have:i=0:=by simpa using hi
     subst this;rfl),by simp,by decide,fun h=>by cases h⟩
    obtain ⟨a11,c11,w11,hr11,h11,b11,hnew11⟩:=append_full (h1010.next bA10) hin1 (by rw [List.length_append,List.length_singleton];omega) (fun e=>List.eq_nil_of_length_eq_zero (by have:=h109.nil e;have:=h109.le;omega));rw [List.length_append,List.length_singleton] at hr11;have hp0:(0:Int)≤(ah.length:Int)+(pr.length:Int):=by omega
    have htn:((ah.length:Int)+(pr.length:Int)).toNat=ah.length+pr.length:=by omega
    have hmx:max ((ah.length:Int)+(pr.length:Int)) 0=(ah.length:Int)+(pr.length:Int):=by omega
    simp -implicitDefEqProofs [go_sem,g0,g7,g10,hl10,hl10'];refine onTake_of (fun _=>True) (.slice a10 (ah.length+pr.length) (ah.length+pr.length)) trivial (fun w' _=>by
     rcases Option.eq_none_or_eq_some a10 with e|⟨z,e⟩
     ·have e3:=h109.nil e;subst e3;have e4:ah.length=0∧pr.length=0:=by omega
      simp -implicitDefEqProofs [go_sem,e,e4.1,e4.2]
     ·subst e;simp -implicitDefEqProofs [go_sem,hl10,hl10',addr_zero,hp0,htn,hmx]) ?_
    simp -implicitDefEqProofs [go_sem,g0,g7,g10,hnode10.cell,hN2',hltl,hltl',hlc',hr11];have b911:Below w9.heap.size w9 w11:=(btr bd9 bA10).trans (b11.mono (by have:=bd9.size;have:=bA10.size;omega));have b1011:=btr bA10 b11;have hS11:=hS10.next b1011
    have t11:=(tL.trans t9).trans (Turn.of b911);have hPd11:=hPd.mod t11.mod hG;have hG11:∀ k,G k→¬ SurvF s mb a' k:=fun k hk=>out_turn (hG k hk) (hPd.lt k hk) t11
    have hkn:ks.nodes=l.nodes++(kt.nodes++r'.nodes):=by rw [hlr,app_nodes,Ks.nodes]
    rw [hnodes,hkn] at hnd;have hd1:=List.nodup_cons.1 hnd;have hd2:=List.nodup_append.1 hd1.2;have hd3:=List.nodup_append.1 hd2.2.1;have hks:=(at_nd.1 hA).2;have hkA:=ksAt hlr hks;have hkO:y.toNat<16∧kt.Ok (ah++pr++[y]):=by
     have h1:=hok.2.2.2.2.2;rw [hlr,app_ok,Ks.Ok] at h1;exact ⟨h1.2.1,h1.2.2.1⟩
    rw [hnodes,hkn,List.length_cons,List.length_append,List.length_append] at hI hn hN;have hIl:(I++own (ah++pr) vl++l.items (ah++pr)).length+kt.nodes.length≤1000:=by
     have h1:(own (ah++pr) vl).length≤1:=by unfold own;split<;>simp
     have h2:=kitems_le (ah++pr) l;rw [List.length_append,List.length_append];omega
    have hs11:SepA w11 (SurvF s mb a') a11:=fun z hz=>by
     rcases hnew11 z hz with ⟨z0,h1,h2⟩|⟨h1,h2⟩
     ·have h3:=hs1010 z0 h1;rw [h2] at h3;exact ⟨by have:=b1011.size;omega,h3.2⟩
     ·exact ⟨h2,fun hf=>by have:=hS10.lt _ hf;have:=bA10.size;omega⟩
    have hih:=ih kt.nodes.length (by omega) kt (ah++pr++[y]) a11 c11 (I++own (ah++pr) vl++l.items (ah++pr)) (addF l.nodes (addF [o] f)) (n+1+l.nodes.length) a' cap' w11 (Nat.le_refl _) hS11 hPd11 hr hG11 hkA hkO.2 hd3.1
     (fun z hz=>by
      rw [addF_not (fun h=>hd2.2.2 z h z (List.mem_append_left _ hz) rfl),addF_not (fun h=>by
       rw [List.mem_singleton] at h;exact hd1.1 (h▸List.mem_append_right _ (List.mem_append_left _ hz)))]
      exact hf z (by rw [hnodes,hkn];exact List.mem_cons_of_mem _ (List.mem_append_right _ (List.mem_append_left _ hz))))
     h11 hs11 (fun e=>List.eq_nil_of_length_eq_zero (by have:=h11.nil e;have:=h11.le;omega)) (fun z hz=>by
      rcases List.mem_append.1 hz with hz|hz
      ·exact hall z hz
      ·rw [List.mem_singleton] at hz;rw [hz];exact hkO.1) hIl (by omega)
    rw [List.length_append,List.length_append,List.length_singleton] at hih;refine callE_of hih ?_;rintro v w12 ⟨rfl,a12,cap12,hS12,t12⟩;simp -implicitDefEqProofs [go_sem,g0,g7,g10,g82,g83,g84];have i2:=IntWalk.i64_in ((l.len:Int)+1) (by omega);refine goE_round ⟨l.app (.cons y kt .nil),r',a12,cap12,?_,?_⟩ ?_
    ·rw [hlr];exact (ks_assoc l y kt r').symm
    ·rw [app_len,app_nodes,app_items,Ks.len,Ks.len,Ks.nodes,Ks.nodes,Ks.items,Ks.items,List.append_nil,List.append_nil];simp -implicitDefEqProofs [go_sem,g0,g7,g10,g82,g83,g84,i2];refine ⟨hka.symm▸rfl,?_,?_⟩
     ·simp only [List.append_assoc] at hS12;rw [addF_app,Nat.add_assoc (n+1)] at hS12;exact hS12
     ·exact t9.trans ((Turn.of b911).trans t12)
    ·simp -implicitDefEqProofs [go_sem,g84,intOf,i2];omega
end
end
end
end Go.Proofs.YtaaihijkdhmcdaaGreatDoor
